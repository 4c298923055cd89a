/-
  Texts of one seat, joined. No condition. (This text proves no statement by itself.)
-/
import Derived.Test.YtoncoofmijjgeaaKR13
import Derived.Test.YtoncoofmijjgeaaKSep21
import Derived.Test.YtoncoofmijjgeaaKR10
import Derived.Test.YtoncoofmijjgeaaKN1
namespace Go.Proofs.Ytoncoofmijjgeaa.M
open Go
set_option linter.unusedVariables false
set_option linter.unusedSimpArgs false
def inB (z t : Sc) : Bool := decide (t.k = z.k ∧ t.c = z.c ∧ t.q = z.q ∧ t.a ≤ z.a ∧ z.b ≤ t.b)
inductive Sub : List Sc → List Sc → Prop
 | nil (b : List Sc) : Sub [] b
 | skip {a b : List Sc} (y : Sc) (h : Sub a b) : Sub a (y :: b)
 | cons {a b : List Sc} {x y : Sc} (hx : inB x y = true) (h : Sub a b) : Sub (x :: a) (y :: b)
theorem Sub.app {a b a' b' : List Sc} (h : Sub a b) (h' : Sub a' b') : Sub (a ++ a') (b ++ b') := by
 induction h with
 | nil b =>
  induction b with
  | nil => exact h'
  | cons y b ih => exact .skip y ih
 | skip y h ih => exact .skip y ih
 | cons hx h ih => exact .cons hx ih
theorem Sub.one {x y : Sc} (h : inB x y = true) : Sub [x] [y] := .cons h (.nil [])
theorem Sub.map {a b : List Sc} (h : Sub a b) : ∃ p : Nat → Nat, (∀ i, i < a.length → p i < b.length ∧ inB (scR a i) (scR b (p i)) = true) ∧ ∀ i, i + 1 < a.length → p i < p (i + 1) := by
 induction h with
 | nil b => exact ⟨fun _ => 0, fun i h => by simp at h, fun i h => by simp at h⟩
 | skip y h ih =>
  obtain ⟨p, h1, h2⟩ := ih
  exact ⟨fun i => p i + 1, fun i hi => ⟨by have := (h1 i hi).1; simp; omega, (h1 i hi).2⟩, fun i hi => by have := h2 i hi; simp only []; omega⟩
 | cons hx h ih =>
  obtain ⟨p, h1, h2⟩ := ih
  refine ⟨fun i => match i with | 0 => 0 | i + 1 => p i + 1, fun i hi => ?_, fun i hi => ?_⟩
  ·cases i with
   | zero => exact ⟨by simp, hx⟩
   | succ i =>
    simp only [List.length_cons] at hi
    exact ⟨by have := (h1 i (by omega)).1; simp; omega, (h1 i (by omega)).2⟩
  ·cases i with
   | zero => simp
   | succ i =>
    simp only [List.length_cons] at hi
    have := h2 i (by omega)
    simp only []; omega
end Go.Proofs.Ytoncoofmijjgeaa.M
namespace Go.Proofs.Ytoncoofmijjgeaa.M
def into (a b u : Int) : Int := a + Int.tmod u (b - a + 1)
theorem into_in {a b u : Int} (h : a ≤ b) (hu : 0 ≤ u) : a ≤ into a b u ∧ into a b u ≤ b := by
 unfold into
 have h1 := Int.tmod_nonneg (b - a + 1) hu
 have h2 := Int.tmod_lt_of_pos u (show 0 < b - a + 1 by omega)
 omega
end Go.Proofs.Ytoncoofmijjgeaa.M
namespace Go.Proofs.Ytoncoofmijjgeaa.Sep
open Go
set_option linter.unusedVariables false
set_option linter.unusedSimpArgs false
def e44:List SV→Option (List Prop × SV)
 | [.agg [.int .i64 a,.int .i64 b],.int .u32 u]=>some ([a≤b,-1000000000000≤a,b≤1000000000000,0≤u,u<4294967296],SI (M.into a b u))
 | _=>none
def Rr44 (a b u:Int):Prop:=R64 u∧R64 (b-a)∧R64 (b-a+(1:Int))∧b-a+(1:Int)≠(0:Int)∧R64 (a+Int.tmod u (b-a+(1:Int)))∧a+Int.tmod u (b-a+(1:Int))=M.into a b u
theorem r44 (a b u:Int):V true [] [] Try.f44 [0,1,2,4] [] [.agg [SI a,SI b],.int .u32 u] (SI (M.into a b u))=Rr44 a b u:=by kernel_rfl
theorem br44 (a b u:Int) (hp:(a≤b)∧(-1000000000000≤a)∧(b≤1000000000000)∧(0≤u)∧(u<4294967296)∧AllP []):Rr44 a b u:=by
 unfold Rr44
 obtain ⟨h1,h2,h3,h4,h5,-⟩:=id hp
 have h6:=M.into_in h1 h4
 unfold M.into at *
 simp
 simp [R64]
 omega
theorem s44:PureOK PP 44 e44:=by
 intro xs ps res h hp
 unfold e44 at h
 split at h
 ·rename_i a b u
  cases h
  simp only [AllP.cons] at hp
  exact enterH (Hold.of (r44 a b u) (br44 a b u hp)) (.nil) (.nil) (k:=44) (by kernel_rfl) (by kernel_rfl) (fun _=>.nil)
 ·cases h
end Go.Proofs.Ytoncoofmijjgeaa.Sep
namespace Go.Proofs.Ytoncoofmijjgeaa.M
open Go
set_option linter.unusedVariables false
set_option linter.unusedSimpArgs false
theorem Lf.mono {a b : Int} {c c' : Int → Int} {u v : Int} {r r' : Bool × Int × Int} (h : Lf a b c u r) (h' : Lf a b c' v r') (hc : ∀ t, a ≤ t → t ≤ b → u ≤ c t → v ≤ c' t) (hr : r.1 = true) : r'.1 = true ∧ r'.2.1 ≤ r.2.1 ∧ r.2.2 ≤ r'.2.2 := by
 obtain ⟨a1, a2, a3, a4, a5⟩ := h.1 hr
 obtain ⟨b1, b2, b3⟩ := h'.2.2 _ a1 (by omega) (hc _ a1 (by omega) a4)
 obtain ⟨c1, c2, c3⟩ := h'.2.2 _ (by omega) a3 (hc _ (by omega) a3 a5)
 exact ⟨b1, b2, c3⟩
namespace Gd
variable {g g' : Gd} {x : Nat → Int} {s : Sc} {f f' : Int} {m m' ns : Nat} {P P' : Nat → Pk}
def Va (g : Gd) (ns : Nat) (x : Nat → Int) (m : Nat) (P : Nat → Pk) : Prop := g.ok ∧ g.all ns x ∧ ∀ i, i < m → (P i).Vd ns
theorem Va.lf (h : g.Va ns x m P) (hs : g.Sok s) : Lf s.a s.b (g.cnt x s m P) ((m : Int) - f) (g.lft x s m P f) :=
 lft_lf h.1 h.2.1 hs.2.1 h.2.2 hs.2.2.2.2.1 (by have := hs.2.2.2.1; omega) (by have := hs.2.2.2.2.2; omega)
theorem Ck.va {n : Nat} {S : Nat → Sc} (h : g.Ck ns x n S m P f) : g.Va ns x m P := ⟨h.1, h.2.2.1, h.2.2.2.2.2.1⟩
end Gd
namespace Gd
variable {g g' : Gd} {x : Nat → Int} {s : Sc} {f f' : Int} {m m' ns : Nat} {P P' : Nat → Pk}
def Wd (g g' : Gd) : Prop := g'.w = g.w ∧ g'.h = g.h ∧ g'.s = g.s ∧ g'.v0 ≤ g.v0 ∧ g.v1 ≤ g'.v1 ∧ g'.d0 ≤ g.d0 ∧ g.d1 ≤ g'.d1 ∧ g.r ≤ g'.r
theorem Wd.bounds (hw : g.Wd g') (hk : g.ok) (hk' : g'.ok) {a b : Int} (ha : g.cell a) (hb : g.cell b) : g'.T0 a b ≤ g.T0 a b ∧ g.T1 a b ≤ g'.T1 a b ∧ ∀ q, g'.S0 q a b ≤ g.S0 q a b ∧ g.S1 q a b ≤ g'.S1 q a b := by
 obtain ⟨w1, w2, w3, w4, w5, w6, w7, w8⟩ := hw
 have ha' : g'.cell a := by unfold cell at *; rw [w1, w2]; exact ha
 have hb' : g'.cell b := by unfold cell at *; rw [w1, w2]; exact hb
 obtain ⟨-, -, -, -, n1, n2, n3, n4⟩ := near_far hk ha hb
 obtain ⟨-, -, -, -, m1, m2, m3, m4⟩ := near_far hk' ha' hb'
 have ex : g'.dx a b = g.dx a b := by unfold dx; rw [w1]
 have ey : g'.dy a b = g.dy a b := by unfold dy; rw [w1]
 obtain ⟨k1, k2, k3, ⟨k4, k5, k6⟩, ⟨k7, k8, k9⟩, k10⟩ := hk
 obtain ⟨l1, l2, l3, ⟨l4, l5, l6⟩, ⟨l7, l8, l9⟩, l10⟩ := hk'
 have hn : g'.near a b ≤ g.near a b := by
  unfold near
  rw [ex, ey, w3]
  have := (sq_bd l7 w6).2
  omega
 have hf : g.far a b ≤ g'.far a b := by
  unfold far
  rw [ex, ey, w3]
  have := (sq_bd (x := g.d1) (y := g'.d1) (by omega) w7).2
  omega
 have d0 : g'.D0 a b ≤ g.D0 a b := by
  unfold D0
  have := root_mono (n := g'.near a b + 1) (m := g.near a b + 1) (by omega) (by omega)
  omega
 have d1 : g.D1 a b ≤ g'.D1 a b := by
  unfold D1
  have := root_mono (n := g.far a b) (m := g'.far a b) hf (by omega)
  omega
 have hk : g.ok := ⟨k1, k2, k3, ⟨k4, k5, k6⟩, ⟨k7, k8, k9⟩, k10⟩
 have hk' : g'.ok := ⟨l1, l2, l3, ⟨l4, l5, l6⟩, ⟨l7, l8, l9⟩, l10⟩
 obtain ⟨e1, e2, e3, e4⟩ := D_bd hk ha hb
 obtain ⟨f1, f2, f3, f4⟩ := D_bd hk' ha' hb'
 refine ⟨?_, ?_, fun q => ?_⟩
 ·unfold T0
  have h1 : 1000 * g'.D0 a b / g'.v1 ≤ 1000 * g'.D0 a b / g.v1 := by
   rw [Int.le_ediv_iff_mul_le (by omega)]
   have h3 : 1000 * g'.D0 a b / g'.v1 * g.v1 ≤ 1000 * g'.D0 a b / g'.v1 * g'.v1 := Int.mul_le_mul_of_nonneg_left w5 (Int.ediv_nonneg (by omega) (by omega))
   have h4 := Int.ediv_mul_le (1000 * g'.D0 a b) (show g'.v1 ≠ 0 by omega)
   omega
  have h2 : 1000 * g'.D0 a b / g.v1 ≤ 1000 * g.D0 a b / g.v1 := Int.ediv_le_ediv (by omega) (by omega)
  omega
 ·unfold T1
  have h1 : (1000 * g.D1 a b - 1) / g.v0 ≤ (1000 * g.D1 a b - 1) / g'.v0 := by
   rw [Int.le_ediv_iff_mul_le (by omega)]
   have h3 : (1000 * g.D1 a b - 1) / g.v0 * g'.v0 ≤ (1000 * g.D1 a b - 1) / g.v0 * g.v0 := Int.mul_le_mul_of_nonneg_left w4 (Int.ediv_nonneg (by omega) (by omega))
   have h4 := Int.ediv_mul_le (1000 * g.D1 a b - 1) (show g.v0 ≠ 0 by omega)
   omega
  have h2 : (1000 * g.D1 a b - 1) / g'.v0 ≤ (1000 * g'.D1 a b - 1) / g'.v0 := Int.ediv_le_ediv (by omega) (by omega)
  omega
 ·unfold S0 S1
  have h1 := fall_mono (d := g.D1 a b) (e := g'.D1 a b) (by omega) d1
  have h2 := fall_mono (d := g'.D0 a b) (e := g.D0 a b) f1 d0
  omega
theorem Wd.alw (hw : g.Wd g') (hk : g.ok) (hk' : g'.ok) {p : Pk} (hs : g.cell s.c) (hx : g.cell (x p.s.toNat)) {t : Int} (h : g.alw x s p t = true) : g'.alw x s p t = true := by
 obtain ⟨a1, a2, a3⟩ := hw.bounds hk hk' hs hx
 obtain ⟨a4, a5⟩ := a3 s.q
 unfold Gd.alw at h ⊢
 split at h
 ·rename_i c
  rw [if_pos c]
  simp only [decide_eq_true_eq] at h ⊢
  omega
 ·rename_i c
  rw [if_neg c]
  split at h
  ·rename_i c2
   rw [if_pos c2]
   simp only [decide_eq_true_eq] at h ⊢
   omega
  ·rename_i c2
   rw [if_neg c2]
   simp only [decide_eq_true_eq] at h ⊢
   omega
end Gd
end Go.Proofs.Ytoncoofmijjgeaa.M
namespace Go.Proofs.Ytoncoofmijjgeaa.M
namespace Gd
def lN (g:Gd) (ns:Nat) (x:Nat→Int) (n:Nat) (S:Nat→Sc) (m:Nat) (P:Nat→Pk) (f:Int):Nat:=if g.ckE ns x n S m P f=0 then g.leN x S m P f n else 0
def rnB (g:Gd) (ns:Nat) (x:Nat→Int) (n:Nat) (S:Nat→Sc) (m:Nat) (P:Nat→Pk) (f:Int):Bool:=decide ((ns≤70∧n≤300∧m≤70∧n*m≤3000)∧g.ckE ns x n S m P f=0)
def rnN (g:Gd) (ns:Nat) (x:Nat→Int) (n:Nat) (S:Nat→Sc) (m:Nat) (P:Nat→Pk) (f:Int):Nat:=if g.rnB ns x n S m P f=true then g.leN x S m P f n else 0
end Gd
theorem rnB_ok {g:Gd} {ns:Nat} {x:Nat→Int} {n:Nat} {S:Nat→Sc} {m:Nat} {P:Nat→Pk} {f:Int} : g.rnB ns x n S m P f=true↔(ns≤70∧n≤300∧m≤70∧n*m≤3000)∧g.Ck ns x n S m P f:=by
 unfold Gd.rnB
 rw [decide_eq_true_iff,Gd.ckE_ok]
end Go.Proofs.Ytoncoofmijjgeaa.M
namespace Go.Proofs.Ytoncoofmijjgeaa.Sep
open Go
set_option linter.unusedVariables false
set_option linter.unusedSimpArgs false
def e18s:List SV→Option (List Prop × SV)
 | [.agg [.int .i64 g_w,.int .i64 g_h,.int .i64 g_s,.int .i64 g_v0,.int .i64 g_v1,.int .i64 g_d0,.int .i64 g_d1,.int .i64 g_r],.sl 1 ns g_1,.sl 5 n g_2,.sl 6 m g_3,.int .i64 f]=>some ([Row 1 ns g_1,Row 5 n g_2,Row 6 m g_3,ns≤100000,n≤100000,m≤100000],.tup [.sl 5 (M.Gd.lN (M.Gd.mk g_w g_h g_s g_v0 g_v1 g_d0 g_d1 g_r) ns (cI g_1 0) n (fun i=>M.Sc.mk (cI g_2 0 i) (cI g_2 1 i) (cI g_2 2 i) (cI g_2 3 i) (cI g_2 4 i)) m (fun i=>M.Pk.mk (cI g_3 0 i) (cI g_3 1 i) (cI g_3 2 i) (cI g_3 3 i) (cI g_3 4 i) (cI g_3 5 i)) f) (fun k=>[SI (M.Gd.leR (M.Gd.mk g_w g_h g_s g_v0 g_v1 g_d0 g_d1 g_r) (cI g_1 0) (fun i=>M.Sc.mk (cI g_2 0 i) (cI g_2 1 i) (cI g_2 2 i) (cI g_2 3 i) (cI g_2 4 i)) m (fun i=>M.Pk.mk (cI g_3 0 i) (cI g_3 1 i) (cI g_3 2 i) (cI g_3 3 i) (cI g_3 4 i) (cI g_3 5 i)) f n k).k,SI (M.Gd.leR (M.Gd.mk g_w g_h g_s g_v0 g_v1 g_d0 g_d1 g_r) (cI g_1 0) (fun i=>M.Sc.mk (cI g_2 0 i) (cI g_2 1 i) (cI g_2 2 i) (cI g_2 3 i) (cI g_2 4 i)) m (fun i=>M.Pk.mk (cI g_3 0 i) (cI g_3 1 i) (cI g_3 2 i) (cI g_3 3 i) (cI g_3 4 i) (cI g_3 5 i)) f n k).c,SI (M.Gd.leR (M.Gd.mk g_w g_h g_s g_v0 g_v1 g_d0 g_d1 g_r) (cI g_1 0) (fun i=>M.Sc.mk (cI g_2 0 i) (cI g_2 1 i) (cI g_2 2 i) (cI g_2 3 i) (cI g_2 4 i)) m (fun i=>M.Pk.mk (cI g_3 0 i) (cI g_3 1 i) (cI g_3 2 i) (cI g_3 3 i) (cI g_3 4 i) (cI g_3 5 i)) f n k).q,SI (M.Gd.leR (M.Gd.mk g_w g_h g_s g_v0 g_v1 g_d0 g_d1 g_r) (cI g_1 0) (fun i=>M.Sc.mk (cI g_2 0 i) (cI g_2 1 i) (cI g_2 2 i) (cI g_2 3 i) (cI g_2 4 i)) m (fun i=>M.Pk.mk (cI g_3 0 i) (cI g_3 1 i) (cI g_3 2 i) (cI g_3 3 i) (cI g_3 4 i) (cI g_3 5 i)) f n k).a,SI (M.Gd.leR (M.Gd.mk g_w g_h g_s g_v0 g_v1 g_d0 g_d1 g_r) (cI g_1 0) (fun i=>M.Sc.mk (cI g_2 0 i) (cI g_2 1 i) (cI g_2 2 i) (cI g_2 3 i) (cI g_2 4 i)) m (fun i=>M.Pk.mk (cI g_3 0 i) (cI g_3 1 i) (cI g_3 2 i) (cI g_3 3 i) (cI g_3 4 i) (cI g_3 5 i)) f n k).b]),SI (M.Gd.ckE (M.Gd.mk g_w g_h g_s g_v0 g_v1 g_d0 g_d1 g_r) ns (cI g_1 0) n (fun i=>M.Sc.mk (cI g_2 0 i) (cI g_2 1 i) (cI g_2 2 i) (cI g_2 3 i) (cI g_2 4 i)) m (fun i=>M.Pk.mk (cI g_3 0 i) (cI g_3 1 i) (cI g_3 2 i) (cI g_3 3 i) (cI g_3 4 i) (cI g_3 5 i)) f)])
 | _=>none
theorem s18s:PureOK PP 18 e18s:=by
 intro xs ps res h hp
 unfold e18s at h
 split at h
 ·rename_i g_w g_h g_s g_v0 g_v1 g_d0 g_d1 g_r ns g_1 n g_2 m g_3 f
  cases h
  simp only [AllP.cons] at hp
  obtain ⟨Hg_1,Hg_2,Hg_3,hp⟩:=hp
  have h6:=s18 [.agg [.int .i64 g_w,.int .i64 g_h,.int .i64 g_s,.int .i64 g_v0,.int .i64 g_v1,.int .i64 g_d0,.int .i64 g_d1,.int .i64 g_r],.sl 1 ns g_1,.sl 5 n g_2,.sl 6 m g_3,.int .i64 f] _ _ rfl (AllP.cons.2 ⟨Hg_1,(AllP.cons.2 ⟨Hg_2,(AllP.cons.2 ⟨Hg_3,(AllP.cons.2 ⟨(hp.1),(AllP.cons.2 ⟨(hp.2.1),(AllP.cons.2 ⟨(hp.2.2.1),AllP.nil⟩)⟩)⟩)⟩)⟩)⟩)
  exact h6
 ·cases h
def e22:List SV→Option (List Prop × SV)
 | [.agg [.int .i64 g_w,.int .i64 g_h,.int .i64 g_s,.int .i64 g_v0,.int .i64 g_v1,.int .i64 g_d0,.int .i64 g_d1,.int .i64 g_r,.sl 1 ns g_1,.sl 5 n g_2,.sl 6 m g_3,.int .i64 f]]=>some ([Row 1 ns g_1,Row 5 n g_2,Row 6 m g_3],.tup [.sl 5 (M.Gd.rnN (M.Gd.mk g_w g_h g_s g_v0 g_v1 g_d0 g_d1 g_r) ns (cI g_1 0) n (fun i=>M.Sc.mk (cI g_2 0 i) (cI g_2 1 i) (cI g_2 2 i) (cI g_2 3 i) (cI g_2 4 i)) m (fun i=>M.Pk.mk (cI g_3 0 i) (cI g_3 1 i) (cI g_3 2 i) (cI g_3 3 i) (cI g_3 4 i) (cI g_3 5 i)) f) (fun k=>[SI (M.Gd.leR (M.Gd.mk g_w g_h g_s g_v0 g_v1 g_d0 g_d1 g_r) (cI g_1 0) (fun i=>M.Sc.mk (cI g_2 0 i) (cI g_2 1 i) (cI g_2 2 i) (cI g_2 3 i) (cI g_2 4 i)) m (fun i=>M.Pk.mk (cI g_3 0 i) (cI g_3 1 i) (cI g_3 2 i) (cI g_3 3 i) (cI g_3 4 i) (cI g_3 5 i)) f n k).k,SI (M.Gd.leR (M.Gd.mk g_w g_h g_s g_v0 g_v1 g_d0 g_d1 g_r) (cI g_1 0) (fun i=>M.Sc.mk (cI g_2 0 i) (cI g_2 1 i) (cI g_2 2 i) (cI g_2 3 i) (cI g_2 4 i)) m (fun i=>M.Pk.mk (cI g_3 0 i) (cI g_3 1 i) (cI g_3 2 i) (cI g_3 3 i) (cI g_3 4 i) (cI g_3 5 i)) f n k).c,SI (M.Gd.leR (M.Gd.mk g_w g_h g_s g_v0 g_v1 g_d0 g_d1 g_r) (cI g_1 0) (fun i=>M.Sc.mk (cI g_2 0 i) (cI g_2 1 i) (cI g_2 2 i) (cI g_2 3 i) (cI g_2 4 i)) m (fun i=>M.Pk.mk (cI g_3 0 i) (cI g_3 1 i) (cI g_3 2 i) (cI g_3 3 i) (cI g_3 4 i) (cI g_3 5 i)) f n k).q,SI (M.Gd.leR (M.Gd.mk g_w g_h g_s g_v0 g_v1 g_d0 g_d1 g_r) (cI g_1 0) (fun i=>M.Sc.mk (cI g_2 0 i) (cI g_2 1 i) (cI g_2 2 i) (cI g_2 3 i) (cI g_2 4 i)) m (fun i=>M.Pk.mk (cI g_3 0 i) (cI g_3 1 i) (cI g_3 2 i) (cI g_3 3 i) (cI g_3 4 i) (cI g_3 5 i)) f n k).a,SI (M.Gd.leR (M.Gd.mk g_w g_h g_s g_v0 g_v1 g_d0 g_d1 g_r) (cI g_1 0) (fun i=>M.Sc.mk (cI g_2 0 i) (cI g_2 1 i) (cI g_2 2 i) (cI g_2 3 i) (cI g_2 4 i)) m (fun i=>M.Pk.mk (cI g_3 0 i) (cI g_3 1 i) (cI g_3 2 i) (cI g_3 3 i) (cI g_3 4 i) (cI g_3 5 i)) f n k).b]),.bool (M.Gd.rnB (M.Gd.mk g_w g_h g_s g_v0 g_v1 g_d0 g_d1 g_r) ns (cI g_1 0) n (fun i=>M.Sc.mk (cI g_2 0 i) (cI g_2 1 i) (cI g_2 2 i) (cI g_2 3 i) (cI g_2 4 i)) m (fun i=>M.Pk.mk (cI g_3 0 i) (cI g_3 1 i) (cI g_3 2 i) (cI g_3 3 i) (cI g_3 4 i) (cI g_3 5 i)) f)])
 | _=>none
def Rr22 (g:M.Gd) (ns:Nat) (x:Nat→Int) (n:Nat) (S:Nat→M.Sc) (m:Nat) (P:Nat→M.Pk) (f:Int):Prop:=(fun (z3:Bool) (z0:Nat→M.Sc) (z1 z2 z4:Prop)=>z4∧z2∧z1∧(z3=true→M.Gd.rnN g ns x n S m P f=(0:Nat)∧false=M.Gd.rnB g ns x n S m P f)∧(z3=false→z4∧z2∧z1∧ns≤(100000:Nat)∧n≤(100000:Nat)∧m≤(100000:Nat)∧(M.Gd.lN g ns x n S m P f=M.Gd.rnN g ns x n S m P f∧∀ (k:Nat),k<M.Gd.lN g ns x n S m P f→(z0 k).k=(z0 k).k∧(z0 k).c=(z0 k).c∧(z0 k).q=(z0 k).q∧(z0 k).a=(z0 k).a∧(z0 k).b=(z0 k).b)∧decide (M.Gd.ckE g ns x n S m P f=(0:Int))=M.Gd.rnB g ns x n S m P f)) (!decide (ns≤(70:Nat)∧n≤(300:Nat)∧m≤(70:Nat)∧n*m≤(3000:Nat))) (M.Gd.leR g x S m P f n) (∀ (k:Nat),k<m→(P k).k=(P k).k∧(P k).s=(P k).s∧(P k).t0=(P k).t0∧(P k).t1=(P k).t1∧(P k).l0=(P k).l0∧(P k).l1=(P k).l1) (∀ (k:Nat),k<n→(S k).k=(S k).k∧(S k).c=(S k).c∧(S k).q=(S k).q∧(S k).a=(S k).a∧(S k).b=(S k).b) (∀ (k:Nat),k<ns→x k=x k)
theorem r22 (g:M.Gd) (ns:Nat) (x:Nat→Int) (n:Nat) (S:Nat→M.Sc) (m:Nat) (P:Nat→M.Pk) (f:Int):V true [] [(16,pureE e16),(18,pureE e18s)] Try.f22 [0,1,2,3,4,5,13] [] [.agg [SI (M.Gd.w g),SI (M.Gd.h g),SI (M.Gd.s g),SI (M.Gd.v0 g),SI (M.Gd.v1 g),SI (M.Gd.d0 g),SI (M.Gd.d1 g),SI (M.Gd.r g),.sl 1 ns (fun k=>[SI (x k)]),.sl 5 n (fun k=>[SI (M.Sc.k (S k)),SI (M.Sc.c (S k)),SI (M.Sc.q (S k)),SI (M.Sc.a (S k)),SI (M.Sc.b (S k))]),.sl 6 m (fun k=>[SI (M.Pk.k (P k)),SI (M.Pk.s (P k)),SI (M.Pk.t0 (P k)),SI (M.Pk.t1 (P k)),SI (M.Pk.l0 (P k)),SI (M.Pk.l1 (P k))]),SI f]] (.tup [.sl 5 (M.Gd.rnN g ns x n S m P f) (fun k=>[SI (M.Gd.leR g x S m P f n k).k,SI (M.Gd.leR g x S m P f n k).c,SI (M.Gd.leR g x S m P f n k).q,SI (M.Gd.leR g x S m P f n k).a,SI (M.Gd.leR g x S m P f n k).b]),.bool (M.Gd.rnB g ns x n S m P f)])=Rr22 g ns x n S m P f:=by kernel_rfl
theorem br22 (g:M.Gd) (ns:Nat) (x:Nat→Int) (n:Nat) (S:Nat→M.Sc) (m:Nat) (P:Nat→M.Pk) (f:Int)  : Rr22 g ns x n S m P f:=by
 unfold Rr22
 dsimp -iota -proj -eta -zeta only
 unfold M.Gd.rnN M.Gd.rnB M.Gd.lN
 by_cases h:ns≤70∧n≤300∧m≤70∧n*m≤3000
 ·by_cases e:M.Gd.ckE g ns x n S m P f=0
  ·simp [h,e]
   omega
  ·simp [h,e]
   omega
 ·simp [h]
theorem s22:PureOK PP 22 e22:=by
 intro xs ps res h hp
 unfold e22 at h
 split at h
 ·rename_i g_w g_h g_s g_v0 g_v1 g_d0 g_d1 g_r ns g_1 n g_2 m g_3 f
  cases h
  simp only [AllP.cons] at hp
  obtain ⟨Hg_1,Hg_2,Hg_3,hp⟩:=hp
  exact Spec.args (enterH (Hold.of (r22 (M.Gd.mk g_w g_h g_s g_v0 g_v1 g_d0 g_d1 g_r) ns (cI g_1 0) n (fun i=>M.Sc.mk (cI g_2 0 i) (cI g_2 1 i) (cI g_2 2 i) (cI g_2 3 i) (cI g_2 4 i)) m (fun i=>M.Pk.mk (cI g_3 0 i) (cI g_3 1 i) (cI g_3 2 i) (cI g_3 3 i) (cI g_3 4 i) (cI g_3 5 i)) f) (br22 (M.Gd.mk g_w g_h g_s g_v0 g_v1 g_d0 g_d1 g_r) ns (cI g_1 0) n (fun i=>M.Sc.mk (cI g_2 0 i) (cI g_2 1 i) (cI g_2 2 i) (cI g_2 3 i) (cI g_2 4 i)) m (fun i=>M.Pk.mk (cI g_3 0 i) (cI g_3 1 i) (cI g_3 2 i) (cI g_3 3 i) (cI g_3 4 i) (cI g_3 5 i)) f )) (.nil) (.cons (pureE_ok s16) (.cons (pureE_ok s18s) (.nil))) (k:=22) (by kernel_rfl) (by kernel_rfl) (fun _=>.nil)) (.cons (.agg (.cons (.refl _) (.cons (.refl _) (.cons (.refl _) (.cons (.refl _) (.cons (.refl _) (.cons (.refl _) (.cons (.refl _) (.cons (.refl _) (.cons (.row Hg_1 fun _=>rfl) (.cons (.row Hg_2 fun _=>rfl) (.cons (.row Hg_3 fun _=>rfl) (.cons (.refl _) .nil))))))))))))) .nil)
 ·cases h
def e22t:List SV→Option (List Prop × SV)
 | [.agg [.int .i64 g_w,.int .i64 g_h,.int .i64 g_s,.int .i64 g_v0,.int .i64 g_v1,.int .i64 g_d0,.int .i64 g_d1,.int .i64 g_r,.sl 1 ns g_1,.sl 5 n g_2,.sl 6 m g_3,.int .i64 f]]=>some ([Row 1 ns g_1,Row 5 n g_2,Row 6 m g_3,M.Gd.rnB (M.Gd.mk g_w g_h g_s g_v0 g_v1 g_d0 g_d1 g_r) ns (cI g_1 0) n (fun i=>M.Sc.mk (cI g_2 0 i) (cI g_2 1 i) (cI g_2 2 i) (cI g_2 3 i) (cI g_2 4 i)) m (fun i=>M.Pk.mk (cI g_3 0 i) (cI g_3 1 i) (cI g_3 2 i) (cI g_3 3 i) (cI g_3 4 i) (cI g_3 5 i)) f=true],.tup [.sl 5 (M.Gd.leN (M.Gd.mk g_w g_h g_s g_v0 g_v1 g_d0 g_d1 g_r) (cI g_1 0) (fun i=>M.Sc.mk (cI g_2 0 i) (cI g_2 1 i) (cI g_2 2 i) (cI g_2 3 i) (cI g_2 4 i)) m (fun i=>M.Pk.mk (cI g_3 0 i) (cI g_3 1 i) (cI g_3 2 i) (cI g_3 3 i) (cI g_3 4 i) (cI g_3 5 i)) f n) (fun k=>[SI (M.Gd.leR (M.Gd.mk g_w g_h g_s g_v0 g_v1 g_d0 g_d1 g_r) (cI g_1 0) (fun i=>M.Sc.mk (cI g_2 0 i) (cI g_2 1 i) (cI g_2 2 i) (cI g_2 3 i) (cI g_2 4 i)) m (fun i=>M.Pk.mk (cI g_3 0 i) (cI g_3 1 i) (cI g_3 2 i) (cI g_3 3 i) (cI g_3 4 i) (cI g_3 5 i)) f n k).k,SI (M.Gd.leR (M.Gd.mk g_w g_h g_s g_v0 g_v1 g_d0 g_d1 g_r) (cI g_1 0) (fun i=>M.Sc.mk (cI g_2 0 i) (cI g_2 1 i) (cI g_2 2 i) (cI g_2 3 i) (cI g_2 4 i)) m (fun i=>M.Pk.mk (cI g_3 0 i) (cI g_3 1 i) (cI g_3 2 i) (cI g_3 3 i) (cI g_3 4 i) (cI g_3 5 i)) f n k).c,SI (M.Gd.leR (M.Gd.mk g_w g_h g_s g_v0 g_v1 g_d0 g_d1 g_r) (cI g_1 0) (fun i=>M.Sc.mk (cI g_2 0 i) (cI g_2 1 i) (cI g_2 2 i) (cI g_2 3 i) (cI g_2 4 i)) m (fun i=>M.Pk.mk (cI g_3 0 i) (cI g_3 1 i) (cI g_3 2 i) (cI g_3 3 i) (cI g_3 4 i) (cI g_3 5 i)) f n k).q,SI (M.Gd.leR (M.Gd.mk g_w g_h g_s g_v0 g_v1 g_d0 g_d1 g_r) (cI g_1 0) (fun i=>M.Sc.mk (cI g_2 0 i) (cI g_2 1 i) (cI g_2 2 i) (cI g_2 3 i) (cI g_2 4 i)) m (fun i=>M.Pk.mk (cI g_3 0 i) (cI g_3 1 i) (cI g_3 2 i) (cI g_3 3 i) (cI g_3 4 i) (cI g_3 5 i)) f n k).a,SI (M.Gd.leR (M.Gd.mk g_w g_h g_s g_v0 g_v1 g_d0 g_d1 g_r) (cI g_1 0) (fun i=>M.Sc.mk (cI g_2 0 i) (cI g_2 1 i) (cI g_2 2 i) (cI g_2 3 i) (cI g_2 4 i)) m (fun i=>M.Pk.mk (cI g_3 0 i) (cI g_3 1 i) (cI g_3 2 i) (cI g_3 3 i) (cI g_3 4 i) (cI g_3 5 i)) f n k).b]),.bool true])
 | _=>none
theorem s22t:PureOK PP 22 e22t:=by
 intro xs ps res h hp
 unfold e22t at h
 split at h
 ·rename_i g_w g_h g_s g_v0 g_v1 g_d0 g_d1 g_r ns g_1 n g_2 m g_3 f
  cases h
  simp only [AllP.cons] at hp
  obtain ⟨Hg_1,Hg_2,Hg_3,hp⟩:=hp
  have h6:=s22 [.agg [.int .i64 g_w,.int .i64 g_h,.int .i64 g_s,.int .i64 g_v0,.int .i64 g_v1,.int .i64 g_d0,.int .i64 g_d1,.int .i64 g_r,.sl 1 ns g_1,.sl 5 n g_2,.sl 6 m g_3,.int .i64 f]] _ _ rfl (AllP.cons.2 ⟨Hg_1,(AllP.cons.2 ⟨Hg_2,(AllP.cons.2 ⟨Hg_3,AllP.nil⟩)⟩)⟩)
  simp only [M.Gd.rnN,hp.1,if_true] at h6
  exact h6
 ·cases h
end Go.Proofs.Ytoncoofmijjgeaa.Sep
namespace Go.Proofs.Ytoncoofmijjgeaa.M
namespace Gd
end Gd
end Go.Proofs.Ytoncoofmijjgeaa.M
namespace Go.Proofs.Ytoncoofmijjgeaa.Sep
open Go
set_option linter.unusedVariables false
set_option linter.unusedSimpArgs false
def e18t:List SV→Option (List Prop × SV)
 | [.agg [.int .i64 g_w,.int .i64 g_h,.int .i64 g_s,.int .i64 g_v0,.int .i64 g_v1,.int .i64 g_d0,.int .i64 g_d1,.int .i64 g_r],.sl 1 ns g_1,.sl 5 n g_2,.sl 6 m g_3,.int .i64 f]=>some ([Row 1 ns g_1,Row 5 n g_2,Row 6 m g_3,ns≤100000,n≤100000,m≤100000,M.Gd.ckE (M.Gd.mk g_w g_h g_s g_v0 g_v1 g_d0 g_d1 g_r) ns (cI g_1 0) n (fun i=>M.Sc.mk (cI g_2 0 i) (cI g_2 1 i) (cI g_2 2 i) (cI g_2 3 i) (cI g_2 4 i)) m (fun i=>M.Pk.mk (cI g_3 0 i) (cI g_3 1 i) (cI g_3 2 i) (cI g_3 3 i) (cI g_3 4 i) (cI g_3 5 i)) f=0],.tup [.sl 5 (M.Gd.leN (M.Gd.mk g_w g_h g_s g_v0 g_v1 g_d0 g_d1 g_r) (cI g_1 0) (fun i=>M.Sc.mk (cI g_2 0 i) (cI g_2 1 i) (cI g_2 2 i) (cI g_2 3 i) (cI g_2 4 i)) m (fun i=>M.Pk.mk (cI g_3 0 i) (cI g_3 1 i) (cI g_3 2 i) (cI g_3 3 i) (cI g_3 4 i) (cI g_3 5 i)) f n) (fun k=>[SI (M.Gd.leR (M.Gd.mk g_w g_h g_s g_v0 g_v1 g_d0 g_d1 g_r) (cI g_1 0) (fun i=>M.Sc.mk (cI g_2 0 i) (cI g_2 1 i) (cI g_2 2 i) (cI g_2 3 i) (cI g_2 4 i)) m (fun i=>M.Pk.mk (cI g_3 0 i) (cI g_3 1 i) (cI g_3 2 i) (cI g_3 3 i) (cI g_3 4 i) (cI g_3 5 i)) f n k).k,SI (M.Gd.leR (M.Gd.mk g_w g_h g_s g_v0 g_v1 g_d0 g_d1 g_r) (cI g_1 0) (fun i=>M.Sc.mk (cI g_2 0 i) (cI g_2 1 i) (cI g_2 2 i) (cI g_2 3 i) (cI g_2 4 i)) m (fun i=>M.Pk.mk (cI g_3 0 i) (cI g_3 1 i) (cI g_3 2 i) (cI g_3 3 i) (cI g_3 4 i) (cI g_3 5 i)) f n k).c,SI (M.Gd.leR (M.Gd.mk g_w g_h g_s g_v0 g_v1 g_d0 g_d1 g_r) (cI g_1 0) (fun i=>M.Sc.mk (cI g_2 0 i) (cI g_2 1 i) (cI g_2 2 i) (cI g_2 3 i) (cI g_2 4 i)) m (fun i=>M.Pk.mk (cI g_3 0 i) (cI g_3 1 i) (cI g_3 2 i) (cI g_3 3 i) (cI g_3 4 i) (cI g_3 5 i)) f n k).q,SI (M.Gd.leR (M.Gd.mk g_w g_h g_s g_v0 g_v1 g_d0 g_d1 g_r) (cI g_1 0) (fun i=>M.Sc.mk (cI g_2 0 i) (cI g_2 1 i) (cI g_2 2 i) (cI g_2 3 i) (cI g_2 4 i)) m (fun i=>M.Pk.mk (cI g_3 0 i) (cI g_3 1 i) (cI g_3 2 i) (cI g_3 3 i) (cI g_3 4 i) (cI g_3 5 i)) f n k).a,SI (M.Gd.leR (M.Gd.mk g_w g_h g_s g_v0 g_v1 g_d0 g_d1 g_r) (cI g_1 0) (fun i=>M.Sc.mk (cI g_2 0 i) (cI g_2 1 i) (cI g_2 2 i) (cI g_2 3 i) (cI g_2 4 i)) m (fun i=>M.Pk.mk (cI g_3 0 i) (cI g_3 1 i) (cI g_3 2 i) (cI g_3 3 i) (cI g_3 4 i) (cI g_3 5 i)) f n k).b]),SI 0])
 | _=>none
theorem s18t:PureOK PP 18 e18t:=by
 intro xs ps res h hp
 unfold e18t at h
 split at h
 ·rename_i g_w g_h g_s g_v0 g_v1 g_d0 g_d1 g_r ns g_1 n g_2 m g_3 f
  cases h
  simp only [AllP.cons] at hp
  obtain ⟨Hg_1,Hg_2,Hg_3,hp⟩:=hp
  have h6:=s18 [.agg [.int .i64 g_w,.int .i64 g_h,.int .i64 g_s,.int .i64 g_v0,.int .i64 g_v1,.int .i64 g_d0,.int .i64 g_d1,.int .i64 g_r],.sl 1 ns g_1,.sl 5 n g_2,.sl 6 m g_3,.int .i64 f] _ _ rfl (AllP.cons.2 ⟨Hg_1,(AllP.cons.2 ⟨Hg_2,(AllP.cons.2 ⟨Hg_3,(AllP.cons.2 ⟨(hp.1),(AllP.cons.2 ⟨(hp.2.1),(AllP.cons.2 ⟨(hp.2.2.1),AllP.nil⟩)⟩)⟩)⟩)⟩)⟩)
  simp only [hp.2.2.2.1,if_true] at h6
  exact h6
 ·cases h
end Go.Proofs.Ytoncoofmijjgeaa.Sep
namespace Go.Proofs.Ytoncoofmijjgeaa.M
open Go
set_option linter.unusedVariables false
set_option linter.unusedSimpArgs false
namespace Gd
variable {g : Gd} {x : Nat → Int} {s : Sc} {f : Int} {m ns : Nat} {P : Nat → Pk}
theorem nu_zero {L : List Nat} (hs : L.Pairwise (· < ·)) (hL : ∀ i ∈ L, i < m) : fe (nuE m (rowN L)) L.length 0 = 0 := by
 rw [fe_all]
 intro k hk
 have h1 := rowN_in hL hk
 unfold nuE
 rw [if_pos (by omega)]
 have h2 : ¬ (0 < k ∧ rowN L k ≤ rowN L (k - 1)) := fun ⟨c1, c2⟩ => by
  have h3 := List.pairwise_iff_getElem.1 hs (k - 1) k (by omega) hk (by omega)
  unfold rowN at c2
  have e1 : L.getD k 0 = L[k] := by simp [List.getD, hk]
  have e2 : L.getD (k - 1) 0 = L[k - 1] := by
   have : k - 1 < L.length := by omega
   simp [List.getD, this]
  rw [e1, e2] at c2
  omega
 rw [if_neg h2]
theorem ve_list {L : List Nat} (hc : g.ck1 ns x s m P f = 0) (hs : L.Pairwise (· < ·)) (hL : ∀ i ∈ L, i < m) : g.veE ns x s m P f L.length (rowN L) = if g.stkL x s P f L = true then 0 else 22 := by
 unfold veE
 rw [if_pos hc, if_pos (nu_zero hs hL)]
 rfl
theorem fe_row {e e' : Nat → Int} {n : Nat} (h : ∀ k, k < n → e k = e' k) : fe e n 0 = fe e' n 0 := fe_congr fun k _ hk => h k (by omega)
theorem ve_congr {n : Nat} {l l' : Nat → Int} (h : ∀ k, k < n → l k = l' k) : g.veE ns x s m P f n l = g.veE ns x s m P f n l' := by
 unfold veE
 have e1 : fe (nuE m l) n 0 = fe (nuE m l') n 0 := fe_row fun k hk => by
  unfold nuE
  rw [h k hk]
  by_cases c : 0 < k
  ·rw [h (k - 1) (by omega)]
  ·simp [c]
 have e2 : g.stk x s P f n l = g.stk x s P f n l' := by
  unfold stk
  rw [lft_congr (P := fun j => P (l j).toNat) (P' := fun j => P (l' j).toNat) fun i hi => by rw [h i hi]]
 rw [e1, e2]
theorem ve_all (hc : g.ck1 ns x s m P f = 0) : g.veE ns x s m P f m (fun k => (k : Int)) = if g.stA x s m P f = true then 0 else 22 := by
 have h1 := ve_list (g := g) (L := List.range m) hc (List.pairwise_lt_range) (fun i hi => List.mem_range.1 hi)
 rw [List.length_range] at h1
 rw [ve_congr (l' := rowN (List.range m)) fun k hk => (rowN_range hk).symm, h1]
 rfl
theorem le_one : g.leN x (fun _ => s) m P f 1 = if g.stA x s m P f = true then 0 else 1 := by
 rw [stA_lft]
 unfold leN
 unfold leL
 unfold one
 by_cases c : s.k = 1
 ·cases e : (g.lft x s m P f).1 <;> simp [c, leL]
 ·simp [c, leL]
end Gd
end Go.Proofs.Ytoncoofmijjgeaa.M
namespace Go.Proofs.Ytoncoofmijjgeaa.M
namespace Gd
def pfN (g:Gd) (x:Nat→Int) (s:Sc) (m:Nat) (P:Nat→Pk) (f:Int):Nat:=if g.stA x s m P f=true then g.prN x s m P f m else 0
end Gd
end Go.Proofs.Ytoncoofmijjgeaa.M
namespace Go.Proofs.Ytoncoofmijjgeaa.Sep
open Go
set_option linter.unusedVariables false
set_option linter.unusedSimpArgs false
def e30t:List SV→Option (List Prop × SV)
 | [.agg [.int .i64 g_w,.int .i64 g_h,.int .i64 g_s,.int .i64 g_v0,.int .i64 g_v1,.int .i64 g_d0,.int .i64 g_d1,.int .i64 g_r],.sl 1 ns g_1,.agg [.int .i64 s_k,.int .i64 s_c,.int .i64 s_q,.int .i64 s_a,.int .i64 s_b],.sl 6 m g_2,.int .i64 f]=>some ([Row 1 ns g_1,Row 6 m g_2,ns≤100000,m≤100000,M.Gd.ck1 (M.Gd.mk g_w g_h g_s g_v0 g_v1 g_d0 g_d1 g_r) ns (cI g_1 0) (M.Sc.mk s_k s_c s_q s_a s_b) m (fun i=>M.Pk.mk (cI g_2 0 i) (cI g_2 1 i) (cI g_2 2 i) (cI g_2 3 i) (cI g_2 4 i) (cI g_2 5 i)) f=0],.tup [.sl 1 (M.Gd.pfN (M.Gd.mk g_w g_h g_s g_v0 g_v1 g_d0 g_d1 g_r) (cI g_1 0) (M.Sc.mk s_k s_c s_q s_a s_b) m (fun i=>M.Pk.mk (cI g_2 0 i) (cI g_2 1 i) (cI g_2 2 i) (cI g_2 3 i) (cI g_2 4 i) (cI g_2 5 i)) f) (fun k=>[SI (M.Gd.prR (M.Gd.mk g_w g_h g_s g_v0 g_v1 g_d0 g_d1 g_r) (cI g_1 0) (M.Sc.mk s_k s_c s_q s_a s_b) m (fun i=>M.Pk.mk (cI g_2 0 i) (cI g_2 1 i) (cI g_2 2 i) (cI g_2 3 i) (cI g_2 4 i) (cI g_2 5 i)) f m k)]),.bool (M.Gd.stA (M.Gd.mk g_w g_h g_s g_v0 g_v1 g_d0 g_d1 g_r) (cI g_1 0) (M.Sc.mk s_k s_c s_q s_a s_b) m (fun i=>M.Pk.mk (cI g_2 0 i) (cI g_2 1 i) (cI g_2 2 i) (cI g_2 3 i) (cI g_2 4 i) (cI g_2 5 i)) f),SI 0])
 | _=>none
theorem s30t:PureOK PP 30 e30t:=by
 intro xs ps res h hp
 unfold e30t at h
 split at h
 ·rename_i g_w g_h g_s g_v0 g_v1 g_d0 g_d1 g_r ns g_1 s_k s_c s_q s_a s_b m g_2 f
  cases h
  simp only [AllP.cons] at hp
  obtain ⟨Hg_1,Hg_2,hp⟩:=hp
  have h6:=s30 [.agg [.int .i64 g_w,.int .i64 g_h,.int .i64 g_s,.int .i64 g_v0,.int .i64 g_v1,.int .i64 g_d0,.int .i64 g_d1,.int .i64 g_r],.sl 1 ns g_1,.agg [.int .i64 s_k,.int .i64 s_c,.int .i64 s_q,.int .i64 s_a,.int .i64 s_b],.sl 6 m g_2,.int .i64 f] _ _ rfl (AllP.cons.2 ⟨Hg_1,(AllP.cons.2 ⟨Hg_2,(AllP.cons.2 ⟨(hp.1),(AllP.cons.2 ⟨(hp.2.1),AllP.nil⟩)⟩)⟩)⟩)
  simp only [hp.2.2.1,true_and,Bool.decide_eq_true] at h6
  exact h6
 ·cases h
def e33s:List SV→Option (List Prop × SV)
 | [.agg [.int .i64 g_w,.int .i64 g_h,.int .i64 g_s,.int .i64 g_v0,.int .i64 g_v1,.int .i64 g_d0,.int .i64 g_d1,.int .i64 g_r],.sl 1 ns g_1,.agg [.int .i64 s_k,.int .i64 s_c,.int .i64 s_q,.int .i64 s_a,.int .i64 s_b],.sl 6 m g_2,.int .i64 f,.sl 1 nl g_3]=>some ([Row 1 ns g_1,Row 6 m g_2,Row 1 nl g_3,ns≤100000,m≤100000,nl≤100000],SI (M.Gd.veE (M.Gd.mk g_w g_h g_s g_v0 g_v1 g_d0 g_d1 g_r) ns (cI g_1 0) (M.Sc.mk s_k s_c s_q s_a s_b) m (fun i=>M.Pk.mk (cI g_2 0 i) (cI g_2 1 i) (cI g_2 2 i) (cI g_2 3 i) (cI g_2 4 i) (cI g_2 5 i)) f nl (cI g_3 0)))
 | _=>none
theorem s33s:PureOK PP 33 e33s:=by
 intro xs ps res h hp
 unfold e33s at h
 split at h
 ·rename_i g_w g_h g_s g_v0 g_v1 g_d0 g_d1 g_r ns g_1 s_k s_c s_q s_a s_b m g_2 f nl g_3
  cases h
  simp only [AllP.cons] at hp
  obtain ⟨Hg_1,Hg_2,Hg_3,hp⟩:=hp
  have h6:=s33 [.agg [.int .i64 g_w,.int .i64 g_h,.int .i64 g_s,.int .i64 g_v0,.int .i64 g_v1,.int .i64 g_d0,.int .i64 g_d1,.int .i64 g_r],.sl 1 ns g_1,.agg [.int .i64 s_k,.int .i64 s_c,.int .i64 s_q,.int .i64 s_a,.int .i64 s_b],.sl 6 m g_2,.int .i64 f,.sl 1 nl g_3] _ _ rfl (AllP.cons.2 ⟨Hg_1,(AllP.cons.2 ⟨Hg_2,(AllP.cons.2 ⟨Hg_3,(AllP.cons.2 ⟨(hp.1),(AllP.cons.2 ⟨(hp.2.1),(AllP.cons.2 ⟨(hp.2.2.1),AllP.nil⟩)⟩)⟩)⟩)⟩)⟩)
  exact h6
 ·cases h
end Go.Proofs.Ytoncoofmijjgeaa.Sep
namespace Go.Proofs.Ytoncoofmijjgeaa.M
open Go
set_option linter.unusedVariables false
set_option linter.unusedSimpArgs false
def num (n : Nat) (l : Nat → Int) (i : Nat) : Int := if n = 0 then 0 else l (i % n)
theorem num_in {n : Nat} {l : Nat → Int} {i : Nat} {b : Int} (hb : 0 ≤ b) (h : ∀ i, i < n → 0 ≤ l i ∧ l i ≤ b) : 0 ≤ num n l i ∧ num n l i ≤ b := by
 unfold num
 split
 ·omega
 ·exact h _ (Nat.mod_lt _ (by omega))
theorem alF_step {c : Nat → Bool} {n i : Nat} (h : i < n) (hc : c i = true) : alF c (n - i) i = alF c (n - (i + 1)) (i + 1) := by
 rw [show n - i = n - (i + 1) + 1 by omega]
 conv => lhs; unfold alF
 rw [hc]; simp
theorem alF_stop {c : Nat → Bool} {n i : Nat} (h : i < n) (hc : c i = false) : alF c (n - i) i = false := by
 rw [show n - i = n - (i + 1) + 1 by omega]
 unfold alF
 rw [hc]; simp
structure Tr where
 n1 : Nat
 l1 : Nat → Int
 n2 : Nat
 l2 : Nat → Int
 n3 : Nat
 l3 : Nat → Int
 n4 : Nat
 l4 : Nat → Int
 fl : Int
namespace Tr
def tr (z : Tr) (i : Nat) : Int := num z.n1 z.l1 i
def lv (z : Tr) (i : Nat) : Int := num z.n2 z.l2 i
def ea (z : Tr) (i : Nat) : Int := num z.n3 z.l3 i
def la (z : Tr) (i : Nat) : Int := num z.n4 z.l4 i
def ok (z : Tr) : Prop := ∀ i, (0 ≤ z.tr i ∧ z.tr i ≤ 4294967295) ∧ (0 ≤ z.lv i ∧ z.lv i ≤ 4294967295) ∧ (0 ≤ z.ea i ∧ z.ea i ≤ 65535) ∧ (0 ≤ z.la i ∧ z.la i ≤ 65535)
def bit (z : Tr) (i : Nat) : Bool := decide (Int.tmod (Int.fdiv z.fl (2 ^ min (Int.tmod (i : Int) 64).toNat 64)) 2 = 1)
end Tr
namespace Gd
variable {g : Gd} {x : Nat → Int} {s : Sc} {z : Tr} {t f : Int} {ns m i : Nat} {P : Nat → Pk}
def tdC (g : Gd) (x : Nat → Int) (s : Sc) (z : Tr) (t : Int) (p : Pk) (i : Nat) : Int := t + into (g.T0 s.c (x p.s.toNat)) (g.T1 s.c (x p.s.toNat)) (z.tr i)
def tdQ (g : Gd) (x : Nat → Int) (s : Sc) (z : Tr) (p : Pk) (i : Nat) : Int := into (g.S0 s.q s.c (x p.s.toNat)) (g.S1 s.q s.c (x p.s.toNat)) (z.lv i)
def tdP (g : Gd) (x : Nat → Int) (s : Sc) (z : Tr) (t : Int) (p : Pk) (i : Nat) : Pk :=
 if p.k = 1 then ⟨p.k, p.s, max 0 (g.tdC x s z t p i - z.ea i), g.tdC x s z t p i + z.la i, p.l0, p.l1⟩
 else if p.k = 2 then ⟨p.k, p.s, p.t0, p.t1, g.tdQ x s z p i - Int.tmod (z.ea i) 100, g.tdQ x s z p i + Int.tmod (z.la i) 100⟩
 else ⟨p.k, p.s, g.tdC x s z t p i - 1 - z.ea i, g.tdC x s z t p i + z.la i, p.l0, p.l1⟩
def tdB (p : Pk) : Bool := if p.k = 2 then decide (-10000 ≤ p.l0 ∧ p.l1 ≤ 10000) else decide (0 ≤ p.t0 ∧ p.t1 ≤ 1000000000)
def tdW (z : Tr) (f : Int) : Nat → Int
 | 0 => 0
 | i + 1 => if z.bit i = true ∧ tdW z f i < f then tdW z f i + 1 else tdW z f i
def tdF (z : Tr) (f : Int) (i : Nat) : Bool := z.bit i && decide (tdW z f i < f)
def tdT (g : Gd) (x : Nat → Int) (s : Sc) (z : Tr) (t f : Int) (P : Nat → Pk) (i : Nat) : Pk := if tdF z f i = true then P i else g.tdP x s z t (P i) i
def tdO (g : Gd) (x : Nat → Int) (s : Sc) (z : Tr) (t f : Int) (P : Nat → Pk) (i : Nat) : Bool := tdF z f i || tdB (g.tdP x s z t (P i) i)
def tdA (g : Gd) (x : Nat → Int) (s : Sc) (z : Tr) (t f : Int) (m : Nat) (P : Nat → Pk) : Bool := alF (g.tdO x s z t f P) m 0
theorem tdW_step : tdW z f (i + 1) = if tdF z f i = true then tdW z f i + 1 else tdW z f i := by
 conv => lhs; unfold tdW
 unfold tdF
 simp only [Bool.and_eq_true, decide_eq_true_eq]
theorem tdW_bd (hf : 0 ≤ f) : ∀ i : Nat, 0 ≤ tdW z f i ∧ tdW z f i ≤ f ∧ tdW z f i ≤ i
 | 0 => ⟨Int.le_refl _, hf, Int.le_refl _⟩
 | i + 1 => by
  have := tdW_bd hf i
  unfold tdW
  split <;> omega
theorem td_vd (hk : g.ok) (hx : g.all ns x) (hc : g.cell s.c) (hz : z.ok) (ht : 0 ≤ t) {p : Pk} (hp : p.Vd ns) (hb : tdB (g.tdP x s z t p i) = true) : (g.tdP x s z t p i).Vd ns ∧ g.alw x s (g.tdP x s z t p i) t = true := by
 obtain ⟨⟨k1, k2⟩, ⟨k3, k4⟩, k5, k6⟩ := hp
 have hst := hx p.s.toNat (by omega)
 obtain ⟨t1, t2, t3, t4⟩ := T_bd hk hc hst
 obtain ⟨s1, s2, s3⟩ := S_bd hk (k := s.q) hc hst
 obtain ⟨z1, z2, z3, z4⟩ := hz i
 have hC := into_in (u := z.tr i) t2 z1.1
 have hQ := into_in (u := z.lv i) s1 z2.1
 have m1 := Int.tmod_nonneg 100 z3.1
 have m2 := Int.tmod_nonneg 100 z4.1
 unfold tdB at hb
 unfold Pk.Vd alw
 unfold tdP tdC tdQ at *
 by_cases c1 : p.k = 1
 ·simp [c1] at hb ⊢
  generalize into (g.T0 s.c (x p.s.toNat)) (g.T1 s.c (x p.s.toNat)) (z.tr i) = C at *
  omega
 ·by_cases c2 : p.k = 2
  ·simp [c2] at hb ⊢
   generalize into (g.S0 s.q s.c (x p.s.toNat)) (g.S1 s.q s.c (x p.s.toNat)) (z.lv i) = D at *
   omega
  ·have c3 : p.k = 3 := by omega
   simp [c3] at hb ⊢
   generalize into (g.T0 s.c (x p.s.toNat)) (g.T1 s.c (x p.s.toNat)) (z.tr i) = C at *
   omega
theorem td_cnt (hk : g.ok) (hx : g.all ns x) (hc : g.cell s.c) (hz : z.ok) (ht : 0 ≤ t) : ∀ {m : Nat}, (∀ i, i < m → (P i).Vd ns) → (∀ i, i < m → g.tdO x s z t f P i = true) → (m : Int) - tdW z f m ≤ g.cnt x s m (g.tdT x s z t f P) t
 | 0, _, _ => by simp [tdW, cnt, sumN]
 | m + 1, hP, hO => by
  have ih := td_cnt hk hx hc hz ht (m := m) (fun i hi => hP i (by omega)) (fun i hi => hO i (by omega))
  have h1 := hO m (by omega)
  unfold tdO at h1
  have hW := tdW_step (z := z) (f := f) (i := m)
  unfold cnt at ih ⊢
  conv => rhs; unfold sumN
  cases e : tdF z f m with
  | true =>
   rw [e] at hW
   simp only [if_true] at hW
   split <;> omega
  | false =>
   rw [e] at hW h1
   simp at hW h1
   have h2 := (td_vd hk hx hc hz ht (hP m (by omega)) h1).2
   have e2 : g.tdT x s z t f P m = g.tdP x s z t (P m) m := by unfold tdT; rw [e]; rfl
   rw [e2, if_pos h2]
   omega
theorem tdT_vd (hk : g.ok) (hx : g.all ns x) (hc : g.cell s.c) (hz : z.ok) (ht : 0 ≤ t) (hP : ∀ i, i < m → (P i).Vd ns) (hO : ∀ i, i < m → g.tdO x s z t f P i = true) : ∀ i, i < m → (g.tdT x s z t f P i).Vd ns := fun i hi => by
 have h1 := hO i hi
 unfold tdO at h1
 unfold tdT
 cases e : tdF z f i with
 | true => exact hP i hi
 | false =>
  rw [e] at h1
  simp at h1
  exact (td_vd hk hx hc hz ht (hP i hi) h1).1
theorem truth (h : g.ck1 ns x s m P f = 0) (hz : z.ok) (hk1 : s.k = 1) (h1 : s.a ≤ t) (h2 : t ≤ s.b) (hO : ∀ i, i < m → g.tdO x s z t f P i = true) :
  g.ck1 ns x s m (g.tdT x s z t f P) f = 0 ∧ g.stA x s m (g.tdT x s z t f P) f = false ∧ ∃ a b, g.leR x (fun _ => s) m (g.tdT x s z t f P) f 1 0 = ⟨s.k, s.c, s.q, a, b⟩ ∧ s.a ≤ a ∧ a ≤ t ∧ t ≤ b ∧ b ≤ s.b := by
 obtain ⟨k1, k2, k3, k4, k5, k6, k7⟩ := ck1_ok h
 have ht : 0 ≤ t := by have := k4.2.2.2.1; omega
 have hv := tdT_vd k1 k3 k4.2.1 hz ht k6 hO
 have hc := td_cnt k1 k3 k4.2.1 hz ht k6 hO
 have hW := (tdW_bd (z := z) k7.1 m).2.1
 have hva : g.Va ns x m (g.tdT x s z t f P) := ⟨k1, k3, hv⟩
 have hl := hva.lf k4 (f := f)
 obtain ⟨l1, l2, l3⟩ := hl.2.2 t h1 h2 (by omega)
 obtain ⟨j1, j2, j3, -⟩ := hl.1 l1
 refine ⟨ckE_ok.2 ⟨k1, k2, k3, ⟨by omega, fun _ _ => k4⟩, k5, hv, k7⟩, ?_, _, _, ?_, j1, l2, l3, j3⟩
 ·rw [stA_lft, l1]; simp
 ·unfold leR leL one
  rw [if_pos hk1, if_pos l1]
  rfl
end Gd
end Go.Proofs.Ytoncoofmijjgeaa.M
namespace Go.Proofs.Ytoncoofmijjgeaa.Sep
open Go
set_option linter.unusedVariables false
set_option linter.unusedSimpArgs false
def e81:List SV→Option (List Prop × SV)
 | [.sl 1 n g_1,.int .i64 i]=>some ([RowK .u32 1 n g_1,0≤i],.int .u32 (M.num n (cI g_1 0) i.toNat))
 | _=>none
def Rr81 (n:Nat) (l:Nat→Int) (i:Int):Prop:=(fun (z0:Int)=>(fun (z1:Int)=>(decide (z0=(0:Int))=true→(0:Int)=M.num n l (Int.toNat i))∧(decide (z0=(0:Int))=false→z0≠(0:Int)∧(0:Int)≤z1∧z1<z0∧Int.toNat z1<n∧l (Int.toNat z1)=M.num n l (Int.toNat i))) (Int.tmod i z0)) (↑n:Int)
theorem r81 (n:Nat) (l:Nat→Int) (i:Int):V true [] [] Try.f81 [0,1,4,7] [] [.sl 1 n (fun k=>[.int .u32 (l k)]),SI i] (.int .u32 (M.num n l i.toNat))=Rr81 n l i:=by kernel_rfl
theorem br81 (n:Nat) (l:Nat→Int) (i:Int) (hp:(0≤i)∧AllP []):Rr81 n l i:=by
 unfold Rr81
 dsimp -iota -proj -eta -zeta only
 obtain ⟨hi,-⟩:=id hp
 obtain ⟨j,rfl⟩:=Int.eq_ofNat_of_zero_le hi
 unfold M.num
 by_cases h:n=0
 ·simp [h]
 ·have e:Int.tmod (j:Int) (n:Int)=((j%n:Nat):Int):=by rw [Int.tmod_eq_emod_of_nonneg (by omega)]; rfl
  have h1:=Nat.mod_lt j (show 0<n by omega)
  simp only [e,Int.toNat_natCast]
  simp [h]
  omega
theorem s81:PureOK PP 81 e81:=by
 intro xs ps res h hp
 unfold e81 at h
 split at h
 ·rename_i n g_1 i
  cases h
  simp only [AllP.cons] at hp
  obtain ⟨Hg_1,hp⟩:=hp
  exact Spec.args (enterH (Hold.of (r81 n (cI g_1 0) i) (br81 n (cI g_1 0) i hp)) (.nil) (.nil) (k:=81) (by kernel_rfl) (by kernel_rfl) (fun _=>.nil)) (.cons (.rowK Hg_1 fun _=>rfl) (.cons (.refl _) .nil))
 ·cases h
def e82:List SV→Option (List Prop × SV)
 | [.sl 1 n g_1,.int .i64 i]=>some ([RowK .u16 1 n g_1,0≤i,∀ k,k<n→0≤(cI g_1 0) k∧(cI g_1 0) k≤65535],SI (M.num n (cI g_1 0) i.toNat))
 | _=>none
def Rr82 (n:Nat) (l:Nat→Int) (i:Int):Prop:=(fun (z1:Bool) (z0:Int)=>(z1=true→(0:Int)=M.num n l (Int.toNat i))∧(z1=false→(↑n:Int)≠(0:Int)∧(0:Int)≤z0∧z0<(↑n:Int)∧Int.toNat z0<n∧R64 (l (Int.toNat z0))∧l (Int.toNat z0)=M.num n l (Int.toNat i))) (decide ((↑n:Int)=(0:Int))) (Int.tmod i (↑n:Int))
theorem r82 (n:Nat) (l:Nat→Int) (i:Int):V true [] [] Try.f82 [0,1,4,7] [] [.sl 1 n (fun k=>[.int .u16 (l k)]),SI i] (SI (M.num n l i.toNat))=Rr82 n l i:=by kernel_rfl
theorem br82 (n:Nat) (l:Nat→Int) (i:Int) (hp:(0≤i)∧(∀ k,k<n→0≤l k∧l k≤65535)∧AllP []):Rr82 n l i:=by
 unfold Rr82
 dsimp -iota -proj -eta -zeta only
 obtain ⟨hi,hl,-⟩:=id hp
 obtain ⟨j,rfl⟩:=Int.eq_ofNat_of_zero_le hi
 unfold M.num
 by_cases h:n=0
 ·simp [h]
 ·have e:Int.tmod (j:Int) (n:Int)=((j%n:Nat):Int):=by rw [Int.tmod_eq_emod_of_nonneg (by omega)]; rfl
  have h1:=Nat.mod_lt j (show 0<n by omega)
  have h2:=hl _ h1
  have r1:R64 (l (j%n)):=by unfold R64; omega
  simp only [e,Int.toNat_natCast,r1]
  simp [h]
  omega
theorem s82:PureOK PP 82 e82:=by
 intro xs ps res h hp
 unfold e82 at h
 split at h
 ·rename_i n g_1 i
  cases h
  simp only [AllP.cons] at hp
  obtain ⟨Hg_1,hp⟩:=hp
  exact Spec.args (enterH (Hold.of (r82 n (cI g_1 0) i) (br82 n (cI g_1 0) i hp)) (.nil) (.nil) (k:=82) (by kernel_rfl) (by kernel_rfl) (fun _=>.nil)) (.cons (.rowK Hg_1 fun _=>rfl) (.cons (.refl _) .nil))
 ·cases h
def e24u:List SV→Option (List Prop × SV)
 | [.agg [.int .i64 g_w,.int .i64 g_h,.int .i64 g_s,.int .i64 g_v0,.int .i64 g_v1,.int .i64 g_d0,.int .i64 g_d1,.int .i64 g_r],.int .i64 a,.int .i64 b]=>some ([M.Gd.kn2 (M.Gd.mk g_w g_h g_s g_v0 g_v1 g_d0 g_d1 g_r) a b=0],.tup [.agg [SI (M.Gd.T0 (M.Gd.mk g_w g_h g_s g_v0 g_v1 g_d0 g_d1 g_r) a b),SI (M.Gd.T1 (M.Gd.mk g_w g_h g_s g_v0 g_v1 g_d0 g_d1 g_r) a b)],SI 0])
 | _=>none
theorem s24u:PureOK PP 24 e24u:=by
 intro xs ps res h hp
 unfold e24u at h
 split at h
 ·rename_i g_w g_h g_s g_v0 g_v1 g_d0 g_d1 g_r a b
  cases h
  simp only [AllP.cons] at hp
  have h6:=s24 [.agg [.int .i64 g_w,.int .i64 g_h,.int .i64 g_s,.int .i64 g_v0,.int .i64 g_v1,.int .i64 g_d0,.int .i64 g_d1,.int .i64 g_r],.int .i64 a,.int .i64 b] _ _ rfl AllP.nil
  simp only [hp.1,if_true] at h6
  exact h6
 ·cases h
def e26t:List SV→Option (List Prop × SV)
 | [.agg [.int .i64 g_w,.int .i64 g_h,.int .i64 g_s,.int .i64 g_v0,.int .i64 g_v1,.int .i64 g_d0,.int .i64 g_d1,.int .i64 g_r],.int .i64 k,.int .i64 a,.int .i64 b]=>some ([M.Gd.stE (M.Gd.mk g_w g_h g_s g_v0 g_v1 g_d0 g_d1 g_r) k a b=0],.tup [.agg [SI (M.Gd.S0 (M.Gd.mk g_w g_h g_s g_v0 g_v1 g_d0 g_d1 g_r) k a b),SI (M.Gd.S1 (M.Gd.mk g_w g_h g_s g_v0 g_v1 g_d0 g_d1 g_r) k a b)],SI 0])
 | _=>none
theorem s26t:PureOK PP 26 e26t:=by
 intro xs ps res h hp
 unfold e26t at h
 split at h
 ·rename_i g_w g_h g_s g_v0 g_v1 g_d0 g_d1 g_r k a b
  cases h
  simp only [AllP.cons] at hp
  have h6:=s26 [.agg [.int .i64 g_w,.int .i64 g_h,.int .i64 g_s,.int .i64 g_v0,.int .i64 g_v1,.int .i64 g_d0,.int .i64 g_d1,.int .i64 g_r],.int .i64 k,.int .i64 a,.int .i64 b] _ _ rfl AllP.nil
  simp only [hp.1,if_true] at h6
  exact h6
 ·cases h
def lp37 (g:M.Gd) (ns:Nat) (x:Nat→Int) (n:Nat) (S:Nat→M.Sc) (m:Nat) (P:Nat→M.Pk) (f:Int) (s:M.Sc) (ix tm:Int) (n1:Nat) (l1:Nat→Int) (n2:Nat) (l2:Nat→Int) (n3:Nat) (l3:Nat→Int) (n4:Nat) (l4:Nat→Int) (fl:Int) (t:Int):LoopS where
 ι:=Nat
 β:=Bool
 pre i:=i≤m∧M.Gd.ck1 g ns x s m P f=0∧M.Tr.ok (M.Tr.mk n1 l1 n2 l2 n3 l3 n4 l4 fl)∧(∀ k,k<n3→0≤l3 k∧l3 k≤65535)∧(∀ k,k<n4→0≤l4 k∧l4 k≤65535)∧0≤t∧t≤1000000000
 μ i:=m-i
 next i _ _ _:=i+1
 out i:=M.alF (M.Gd.tdO g x s (M.Tr.mk n1 l1 n2 l2 n3 l3 n4 l4 fl) t f P) (m-i) i
 early q:=!q
 SA i:=[(3,.ptr 0 0),(4,.ptr 1 0),(5,.ptr 2 0),(9,SI t),(10,.vec 3 6 0 i),(11,SI (M.Gd.tdW (M.Tr.mk n1 l1 n2 l2 n3 l3 n4 l4 fl) f i)),(12,SI i)]
 SH i:=[(0,.cells [SI (M.Gd.w g),SI (M.Gd.h g),SI (M.Gd.s g),SI (M.Gd.v0 g),SI (M.Gd.v1 g),SI (M.Gd.d0 g),SI (M.Gd.d1 g),SI (M.Gd.r g),.sl 1 ns (fun k=>[SI (x k)]),.sl 5 n (fun k=>[SI (M.Sc.k (S k)),SI (M.Sc.c (S k)),SI (M.Sc.q (S k)),SI (M.Sc.a (S k)),SI (M.Sc.b (S k))]),.sl 6 m (fun k=>[SI (M.Pk.k (P k)),SI (M.Pk.s (P k)),SI (M.Pk.t0 (P k)),SI (M.Pk.t1 (P k)),SI (M.Pk.l0 (P k)),SI (M.Pk.l1 (P k))]),SI f]),(1,.cells [SI (M.Sc.k s),SI (M.Sc.c s),SI (M.Sc.q s),SI (M.Sc.a s),SI (M.Sc.b s)]),(2,.cells [.int .u8 ix,.int .u32 tm,.sl 1 n1 (fun k=>[.int .u32 (l1 k)]),.sl 1 n2 (fun k=>[.int .u32 (l2 k)]),.sl 1 n3 (fun k=>[.int .u16 (l3 k)]),.sl 1 n4 (fun k=>[.int .u16 (l4 k)]),.int .u64 fl]),(3,.row 6 i (fun k=>[SI (M.Pk.k ((M.Gd.tdT g x s (M.Tr.mk n1 l1 n2 l2 n3 l3 n4 l4 fl) t f P) k)),SI (M.Pk.s ((M.Gd.tdT g x s (M.Tr.mk n1 l1 n2 l2 n3 l3 n4 l4 fl) t f P) k)),SI (M.Pk.t0 ((M.Gd.tdT g x s (M.Tr.mk n1 l1 n2 l2 n3 l3 n4 l4 fl) t f P) k)),SI (M.Pk.t1 ((M.Gd.tdT g x s (M.Tr.mk n1 l1 n2 l2 n3 l3 n4 l4 fl) t f P) k)),SI (M.Pk.l0 ((M.Gd.tdT g x s (M.Tr.mk n1 l1 n2 l2 n3 l3 n4 l4 fl) t f P) k)),SI (M.Pk.l1 ((M.Gd.tdT g x s (M.Tr.mk n1 l1 n2 l2 n3 l3 n4 l4 fl) t f P) k))]))]
 n0:=4
 NA _:=[(9,SI t),(10,.vec 0 6 0 m)]
 NH _:=[(0,.row 6 m (fun k=>[SI (M.Pk.k ((M.Gd.tdT g x s (M.Tr.mk n1 l1 n2 l2 n3 l3 n4 l4 fl) t f P) k)),SI (M.Pk.s ((M.Gd.tdT g x s (M.Tr.mk n1 l1 n2 l2 n3 l3 n4 l4 fl) t f P) k)),SI (M.Pk.t0 ((M.Gd.tdT g x s (M.Tr.mk n1 l1 n2 l2 n3 l3 n4 l4 fl) t f P) k)),SI (M.Pk.t1 ((M.Gd.tdT g x s (M.Tr.mk n1 l1 n2 l2 n3 l3 n4 l4 fl) t f P) k)),SI (M.Pk.l0 ((M.Gd.tdT g x s (M.Tr.mk n1 l1 n2 l2 n3 l3 n4 l4 fl) t f P) k)),SI (M.Pk.l1 ((M.Gd.tdT g x s (M.Tr.mk n1 l1 n2 l2 n3 l3 n4 l4 fl) t f P) k))]))]
 n1:=1
 RA _:=[(6,.lit (.slice none 0 0)),(7,SI 0),(8,.bool false)]
 RH _:=[]
def Rq37 (g:M.Gd) (ns:Nat) (x:Nat→Int) (n:Nat) (S:Nat→M.Sc) (m:Nat) (P:Nat→M.Pk) (f:Int) (s:M.Sc) (ix tm:Int) (n1:Nat) (l1:Nat→Int) (n2:Nat) (l2:Nat→Int) (n3:Nat) (l3:Nat→Int) (n4:Nat) (l4:Nat→Int) (fl:Int) (t:Int) (i:Nat):Prop:=(fun (z13 z31 z64 z67:Int) (z6:M.Tr) (z18:Nat) (z25 z26 z32 z33 z34 z43 z45 z46 z48 z49:Prop)=>(fun (z10 z53:Bool) (z47:Int) (z0:Nat) (z44:Nat→Int) (z14 z24 z35 z41 z42 z57 z62:Prop)=>(fun (z3 z12 z63:Bool) (z27 z54 z58:Int) (z11 z17 z56 z68 z69:Prop)=>(fun (z2 z7 z21:Bool) (z1 z8:Int) (z9 z15 z19 z70:Prop)=>(fun (z4 z5 z16 z55:Bool) (z20 z22 z23 z28 z39 z50 z59 z60 z61:Prop)=>(fun (z40:Bool) (z29 z30 z36 z37 z38 z51 z52:Prop)=>(fun (z65 z66:Prop)=>(decide (z31<(↑m:Int))=true→z57∧z31<(↑m:Int)∧z0<m∧(64:Int)≠z13∧z13≤Int.tmod z31 (64:Int)∧(2:Int)≠z13∧z56∧z56∧z56∧z56∧(z63=true→R64 (z44 i+z64)∧z43∧z34∧i≤i∧z35∧R64 z47∧z11∧z62∧z24∧t=t∧z49∧z18=z18∧z44 i+z64=z44 z18∧z9)∧(z63=false→z13≤(P z0).s∧(P z0).s<(↑ns:Int)∧Int.toNat (P z0).s<ns∧M.Gd.kn2 g s.c z27=z13∧z13≤(P z0).s∧(P z0).s<(↑ns:Int)∧Int.toNat (P z0).s<ns∧M.Gd.stE g s.q s.c z27=z13∧((!z53)=true→(!z53)=true)∧(z53=false→(!z53)=true)∧z70∧z70∧z70∧z70∧((bif z53 then true else z53)=false→z17)∧z50∧z50∧z50∧z50∧(z7=false→(!z7)=true)∧(z55=true→z14)∧(z55=false→z45∧z57∧M.Gd.T0 g s.c z27≤M.Gd.T1 g s.c z27∧(- 1000000000000:Int)≤M.Gd.T0 g s.c z27∧M.Gd.T1 g s.c z27≤(1000000000000:Int)∧z13≤M.num n1 l1 z0∧M.num n1 l1 z0<(4294967296:Int)∧R64 z1∧z46∧z57∧M.Gd.S0 g s.q s.c z27≤M.Gd.S1 g s.q s.c z27∧(- 1000000000000:Int)≤M.Gd.S0 g s.q s.c z27∧M.Gd.S1 g s.q s.c z27≤(1000000000000:Int)∧z13≤M.num n2 l2 z0∧M.num n2 l2 z0<(4294967296:Int)∧(decide ((P z0).k=z64)=true→z32∧z57∧z41∧R64 (z1-z54)∧z33∧z57∧z42∧R64 (z1+z58)∧z15∧z15∧z15∧z15∧(z23→z23)∧(z23→z23)∧(z23→z23)∧z15∧((!z3)=true→decide (max z13 (z1-z54)<z13)=false→z23)∧z15∧z51∧z51∧z51∧z65∧z65∧z65∧z65∧(z36→z36)∧(z36→z36)∧(z36→z36)∧z65∧(z29→z12=false→z36)∧z51∧((!z4)=true→z3=true→z29)∧(z4=false→(!z4)=true)∧((bif z4 then true else z21)=true→z14)∧((bif z4 then true else z21)=false→z43∧z34∧i≤i∧z35∧R64 z47∧z11∧z62∧z24∧t=t∧z49∧z18=z18∧z68∧z69∧g.w=g.w∧g.h=g.h∧g.s=g.s∧g.v0=g.v0∧g.v1=g.v1∧g.d0=g.d0∧g.d1=g.d1∧g.r=g.r∧z48∧z26∧z25∧f=f∧s.k=s.k∧s.c=s.c∧s.q=s.q∧s.a=s.a∧s.b=s.b∧ix=ix∧tm=tm∧(n1=n1∧z45)∧(n2=n2∧z46)∧(n3=n3∧z32)∧(n4=n4∧z33)∧fl=fl∧z18≤z18∧(∀ (k:Nat),k<z18→(bif decide (k<i) then (M.Gd.tdT g x s z6 t f P k).k else (P z0).k)=(M.Gd.tdT g x s z6 t f P k).k∧(bif decide (k<i) then (M.Gd.tdT g x s z6 t f P k).s else (P z0).s)=(M.Gd.tdT g x s z6 t f P k).s∧(bif decide (k<i) then (M.Gd.tdT g x s z6 t f P k).t0 else max z13 (z1-z54))=(M.Gd.tdT g x s z6 t f P k).t0∧(bif decide (k<i) then (M.Gd.tdT g x s z6 t f P k).t1 else z1+z58)=(M.Gd.tdT g x s z6 t f P k).t1∧(bif decide (k<i) then (M.Gd.tdT g x s z6 t f P k).l0 else (P z0).l0)=(M.Gd.tdT g x s z6 t f P k).l0∧(bif decide (k<i) then (M.Gd.tdT g x s z6 t f P k).l1 else (P z0).l1)=(M.Gd.tdT g x s z6 t f P k).l1)∧True))∧(decide ((P z0).k=z64)=false→(z3=true→z32∧z57∧z41∧z67≠z13∧R64 (z8-Int.tmod z54 z67)∧z33∧z57∧z42∧z67≠z13∧R64 (z8+Int.tmod z58 z67)∧z15∧z15∧z15∧z15∧z60∧z60∧z60∧z15∧z59∧z15∧z28∧z28∧z28∧z20∧z20∧z20∧z20∧(z37→z37)∧(z37→z37)∧(z37→z37)∧z20∧(((!z2) && z3)=true→z16=false→z37)∧z28∧z61∧(z2=false→(!z2)=true)∧(z40=true→z14)∧(z40=false→z43∧z34∧i≤i∧z35∧R64 z47∧z11∧z62∧z24∧t=t∧z49∧z18=z18∧z68∧z69∧g.w=g.w∧g.h=g.h∧g.s=g.s∧g.v0=g.v0∧g.v1=g.v1∧g.d0=g.d0∧g.d1=g.d1∧g.r=g.r∧z48∧z26∧z25∧f=f∧s.k=s.k∧s.c=s.c∧s.q=s.q∧s.a=s.a∧s.b=s.b∧ix=ix∧tm=tm∧(n1=n1∧z45)∧(n2=n2∧z46)∧(n3=n3∧z32)∧(n4=n4∧z33)∧fl=fl∧z18≤z18∧(∀ (k:Nat),k<z18→(bif decide (k<i) then (M.Gd.tdT g x s z6 t f P k).k else (P z0).k)=(M.Gd.tdT g x s z6 t f P k).k∧(bif decide (k<i) then (M.Gd.tdT g x s z6 t f P k).s else (P z0).s)=(M.Gd.tdT g x s z6 t f P k).s∧(bif decide (k<i) then (M.Gd.tdT g x s z6 t f P k).t0 else (P z0).t0)=(M.Gd.tdT g x s z6 t f P k).t0∧(bif decide (k<i) then (M.Gd.tdT g x s z6 t f P k).t1 else (P z0).t1)=(M.Gd.tdT g x s z6 t f P k).t1∧(bif decide (k<i) then (M.Gd.tdT g x s z6 t f P k).l0 else z8-Int.tmod z54 z67)=(M.Gd.tdT g x s z6 t f P k).l0∧(bif decide (k<i) then (M.Gd.tdT g x s z6 t f P k).l1 else z8+Int.tmod z58 z67)=(M.Gd.tdT g x s z6 t f P k).l1)∧True))∧(z3=false→(decide ((P z0).k=(3:Int))=true→R64 (z1-z64)∧z32∧z57∧z41∧R64 (z1-z64-z54)∧z33∧z57∧z42∧R64 (z1+z58)∧z15∧z15∧z15∧z15∧(z22→z22)∧(z22→z22)∧(z22→z22)∧z15∧((!z3)=true→decide (z1-z64-z54<z13)=false→z22)∧z15∧z52∧z52∧z52∧z66∧z66∧z66∧z66∧(z38→z38)∧(z38→z38)∧(z38→z38)∧z66∧(z30→z12=false→z38)∧z52∧((!z5)=true→z3=true→z30)∧(z5=false→(!z5)=true)∧((bif z5 then true else z21)=true→z14)∧((bif z5 then true else z21)=false→z43∧z34∧i≤i∧z35∧R64 z47∧z11∧z62∧z24∧t=t∧z49∧z18=z18∧z68∧z69∧g.w=g.w∧g.h=g.h∧g.s=g.s∧g.v0=g.v0∧g.v1=g.v1∧g.d0=g.d0∧g.d1=g.d1∧g.r=g.r∧z48∧z26∧z25∧f=f∧s.k=s.k∧s.c=s.c∧s.q=s.q∧s.a=s.a∧s.b=s.b∧ix=ix∧tm=tm∧(n1=n1∧z45)∧(n2=n2∧z46)∧(n3=n3∧z32)∧(n4=n4∧z33)∧fl=fl∧z18≤z18∧(∀ (k:Nat),k<z18→(bif decide (k<i) then (M.Gd.tdT g x s z6 t f P k).k else (P z0).k)=(M.Gd.tdT g x s z6 t f P k).k∧(bif decide (k<i) then (M.Gd.tdT g x s z6 t f P k).s else (P z0).s)=(M.Gd.tdT g x s z6 t f P k).s∧(bif decide (k<i) then (M.Gd.tdT g x s z6 t f P k).t0 else z1-z64-z54)=(M.Gd.tdT g x s z6 t f P k).t0∧(bif decide (k<i) then (M.Gd.tdT g x s z6 t f P k).t1 else z1+z58)=(M.Gd.tdT g x s z6 t f P k).t1∧(bif decide (k<i) then (M.Gd.tdT g x s z6 t f P k).l0 else (P z0).l0)=(M.Gd.tdT g x s z6 t f P k).l0∧(bif decide (k<i) then (M.Gd.tdT g x s z6 t f P k).l1 else (P z0).l1)=(M.Gd.tdT g x s z6 t f P k).l1)∧True))∧(decide ((P z0).k=(3:Int))=false→z15∧z15∧z15∧z15∧z60∧z60∧z60∧z15∧z59∧z15∧z28∧z28∧z28∧z20∧z20∧z20∧z20∧(z39→z39)∧(z39→z39)∧(z39→z39)∧z20∧(((!z2) && z3)=true→z12=false→z39)∧z28∧z61∧(z2=false→(!z2)=true)∧((bif z2 then true else z21)=true→z14)∧((bif z2 then true else z21)=false→z43∧z34∧i≤i∧z35∧R64 z47∧z11∧z62∧z24∧t=t∧z49∧z18=z18∧z68∧z9)))))))∧(decide (z31<(↑m:Int))=false→(!M.alF (M.Gd.tdO g x s z6 t f P) (m-i) i)=false∧t=t∧z49∧i=m∧m≤i∧(∀ (k:Nat),k<m→(M.Gd.tdT g x s z6 t f P k).k=(M.Gd.tdT g x s z6 t f P k).k∧(M.Gd.tdT g x s z6 t f P k).s=(M.Gd.tdT g x s z6 t f P k).s∧(M.Gd.tdT g x s z6 t f P k).t0=(M.Gd.tdT g x s z6 t f P k).t0∧(M.Gd.tdT g x s z6 t f P k).t1=(M.Gd.tdT g x s z6 t f P k).t1∧(M.Gd.tdT g x s z6 t f P k).l0=(M.Gd.tdT g x s z6 t f P k).l0∧(M.Gd.tdT g x s z6 t f P k).l1=(M.Gd.tdT g x s z6 t f P k).l1)∧True)) (z29→z29) (z30→z30)) (bif z2 then true else bif z3 then bif z16 then true else decide ((10000:Int)<z8+Int.tmod z58 z67) else false) (((!z4) && z3)=true) (((!z5) && z3)=true) (((!z4) && z3 && !z12)=true) (((!z2) && z3 && !z16)=true) (((!z5) && z3 && !z12)=true) ((!z4)=true→(!z4)=true) ((!z5)=true→(!z5)=true)) (bif !z3 then bif decide (max z13 (z1-z54)<z13) then true else decide ((1000000000:Int)<z1+z58) else false) (bif !z3 then bif decide (z1-z64-z54<z13) then true else decide ((1000000000:Int)<z1+z58) else false) (decide (z8-Int.tmod z54 z67<(- 10000:Int))) (bif z7 then true else decide (M.Gd.S1 g s.q s.c z27<M.Gd.S0 g s.q s.c z27)) (((!z2) && z3)=true→((!z2) && z3)=true) ((!z3 && !decide (z1-z64-z54<z13))=true) ((!z3 && !decide (max z13 (z1-z54)<z13))=true) ((!z2)=true→(!z2)=true) (((!z2) && z3 && !z12)=true) ((!z7)=true→(!z7)=true) ((!z3)=true→decide ((P z0).t0<z13)=false→z19) (z19→z19) ((!z2)=true→z3=true→((!z2) && z3)=true)) (bif !z3 then bif decide ((P z0).t0<z13) then true else decide ((1000000000:Int)<(P z0).t1) else false) (bif bif z53 then true else z53 then true else decide (M.Gd.T1 g s.c z27<M.Gd.T0 g s.c z27)) (bif z3 then bif z12 then true else decide ((10000:Int)<(P z0).l1) else false) (t+M.into (M.Gd.T0 g s.c z27) (M.Gd.T1 g s.c z27) (M.num n1 l1 z0)) (M.into (M.Gd.S0 g s.q s.c z27) (M.Gd.S1 g s.q s.c z27) (M.num n2 l2 z0)) (z69∧g.w=g.w∧g.h=g.h∧g.s=g.s∧g.v0=g.v0∧g.v1=g.v1∧g.d0=g.d0∧g.d1=g.d1∧g.r=g.r∧z48∧z26∧z25∧f=f∧s.k=s.k∧s.c=s.c∧s.q=s.q∧s.a=s.a∧s.b=s.b∧ix=ix∧tm=tm∧(n1=n1∧z45)∧(n2=n2∧z46)∧(n3=n3∧z32)∧(n4=n4∧z33)∧fl=fl∧z18≤z18∧(∀ (k:Nat),k<z18→(bif decide (k<i) then (M.Gd.tdT g x s z6 t f P k).k else (P z0).k)=(M.Gd.tdT g x s z6 t f P k).k∧(bif decide (k<i) then (M.Gd.tdT g x s z6 t f P k).s else (P z0).s)=(M.Gd.tdT g x s z6 t f P k).s∧(bif decide (k<i) then (M.Gd.tdT g x s z6 t f P k).t0 else (P z0).t0)=(M.Gd.tdT g x s z6 t f P k).t0∧(bif decide (k<i) then (M.Gd.tdT g x s z6 t f P k).t1 else (P z0).t1)=(M.Gd.tdT g x s z6 t f P k).t1∧(bif decide (k<i) then (M.Gd.tdT g x s z6 t f P k).l0 else (P z0).l0)=(M.Gd.tdT g x s z6 t f P k).l0∧(bif decide (k<i) then (M.Gd.tdT g x s z6 t f P k).l1 else (P z0).l1)=(M.Gd.tdT g x s z6 t f P k).l1)∧True) ((!z3)=true→(!z3)=true) ((!z3 && !decide ((P z0).t0<z13))=true) (z17→z17)) (decide ((P z0).k=(2:Int))) (decide ((P z0).l0<(- 10000:Int))) (bif z10 then decide (z44 i<f) else false) (x (Int.toNat (P z0).s)) (M.num n3 l3 z0) (M.num n4 l4 z0) (z18≤m∧M.Gd.ck1 g ns x s m P f=z13∧M.Tr.ok z6∧z41∧z42∧z13≤t∧t≤(1000000000:Int)) ((!bif z53 then true else z53)=true) (z10=true→z10=true) (z44 i=z44 z18) (z47=(↑z18:Int))) (decide (Int.tmod (Int.fdiv fl ((2:Int) ^ min (Int.toNat (Int.tmod z31 (64:Int))) (IntKind.bits IntKind.u64))) (2:Int)=z64)) (!decide (z13=z13)) (z31+z64) (Int.toNat z31) (M.Gd.tdW z6 f) ((!M.alF (M.Gd.tdO g x s z6 t f P) (m-i) i)=true∧Value.slice none (0:Nat) (0:Nat)=Value.slice none (0:Nat) (0:Nat)∧z13=z13∧false=false∧True) (M.alF (M.Gd.tdO g x s z6 t f P) (m-z18) z18=M.alF (M.Gd.tdO g x s z6 t f P) (m-i) i) (z18*(48:Nat)≤(140737488355328:Nat)) (∀ (k:Nat),k<n3→z13≤l3 k∧l3 k≤(65535:Int)) (∀ (k:Nat),k<n4→z13≤l4 k∧l4 k≤(65535:Int)) (z13≤z31) (m-z18<m-i)) (0:Int) (↑i:Int) (1:Int) (100:Int) (M.Tr.mk n1 l1 n2 l2 n3 l3 n4 l4 fl) (i+(1:Nat)) (m=m∧∀ (k:Nat),k<m→(P k).k=(P k).k∧(P k).s=(P k).s∧(P k).t0=(P k).t0∧(P k).t1=(P k).t1∧(P k).l0=(P k).l0∧(P k).l1=(P k).l1) (n=n∧∀ (k:Nat),k<n→(S k).k=(S k).k∧(S k).c=(S k).c∧(S k).q=(S k).q∧(S k).a=(S k).a∧(S k).b=(S k).b) (∀ (k:Nat),k<n3→l3 k=l3 k) (∀ (k:Nat),k<n4→l4 k=l4 k) (∀ (k:Nat),k<(1:Nat)→true=true) ((0:Nat)+(1:Nat)≤(1:Nat)) (∀ (k:Nat),k<n1→l1 k=l1 k) (∀ (k:Nat),k<n2→l2 k=l2 k) (ns=ns∧∀ (k:Nat),k<ns→x k=x k) ((0:Nat)=(0:Nat))
theorem q37 (g:M.Gd) (ns:Nat) (x:Nat→Int) (n:Nat) (S:Nat→M.Sc) (m:Nat) (P:Nat→M.Pk) (f:Int) (s:M.Sc) (ix tm:Int) (n1:Nat) (l1:Nat→Int) (n2:Nat) (l2:Nat→Int) (n3:Nat) (l3:Nat→Int) (n4:Nat) (l4:Nat→Int) (fl:Int) (t:Int) (i:Nat):VL true [] [(24,pureE e24u),(26,pureE e26t),(44,pureE e44),(81,pureE e81),(82,pureE e82)] YS.none Try.f37 0 [0,1,2,3,4,5,6,7,8,9,10,11,12,13,14,15,16,17,18,19,29,49,105,121,122,139,157,205] [] 0 (lp37 g ns x n S m P f s ix tm n1 l1 n2 l2 n3 l3 n4 l4 fl t) (i)=Rq37 g ns x n S m P f s ix tm n1 l1 n2 l2 n3 l3 n4 l4 fl t i:=by kernel_rfl
theorem peq37 (g:M.Gd) (ns:Nat) (x:Nat→Int) (n:Nat) (S:Nat→M.Sc) (m:Nat) (P:Nat→M.Pk) (f:Int) (s:M.Sc) (ix tm:Int) (n1:Nat) (l1:Nat→Int) (n2:Nat) (l2:Nat→Int) (n3:Nat) (l3:Nat→Int) (n4:Nat) (l4:Nat→Int) (fl:Int) (t:Int) (i:Nat):(lp37 g ns x n S m P f s ix tm n1 l1 n2 l2 n3 l3 n4 l4 fl t).pre (i)=(i≤m ∧
 M.Gd.ck1 g ns x s m P f=(0:Int) ∧
  M.Tr.ok (M.Tr.mk n1 l1 n2 l2 n3 l3 n4 l4 fl) ∧
   (∀ (k:Nat),k<n3→(0:Int)≤l3 k∧l3 k≤(65535:Int)) ∧
    (∀ (k:Nat),k<n4→(0:Int)≤l4 k∧l4 k≤(65535:Int))∧(0:Int)≤t∧t≤(1000000000:Int)):=by kernel_rfl
theorem bq37 (g:M.Gd) (ns:Nat) (x:Nat→Int) (n:Nat) (S:Nat→M.Sc) (m:Nat) (P:Nat→M.Pk) (f:Int) (s:M.Sc) (ix tm:Int) (n1:Nat) (l1:Nat→Int) (n2:Nat) (l2:Nat→Int) (n3:Nat) (l3:Nat→Int) (n4:Nat) (l4:Nat→Int) (fl:Int) (t:Int) (i:Nat) (hp:i≤m ∧
 M.Gd.ck1 g ns x s m P f=(0:Int) ∧
  M.Tr.ok (M.Tr.mk n1 l1 n2 l2 n3 l3 n4 l4 fl) ∧
   (∀ (k:Nat),k<n3→(0:Int)≤l3 k∧l3 k≤(65535:Int)) ∧
    (∀ (k:Nat),k<n4→(0:Int)≤l4 k∧l4 k≤(65535:Int))∧(0:Int)≤t∧t≤(1000000000:Int)):Rq37 g ns x n S m P f s ix tm n1 l1 n2 l2 n3 l3 n4 l4 fl t i:=by
 unfold Rq37
 dsimp -iota -proj -eta -zeta only
 obtain ⟨h1,h2,h3,h4,h5,h6,h7⟩:=id hp
 obtain ⟨k1,k2,k3,k4,k5,k6,k7⟩:=M.Gd.ck1_ok h2
 have eb:decide (Int.tmod (Int.fdiv fl (2 ^ min (Int.tmod (i:Int) 64).toNat (IntKind.bits IntKind.u64))) 2=1)=M.Tr.bit (M.Tr.mk n1 l1 n2 l2 n3 l3 n4 l4 fl) i:=rfl
 have r1:R64 ((i:Int)+1):=by unfold R64; omega
 simp only [Int.toNat_natCast,eb,r1]
 by_cases hl:i<m
 ·have hl':(i:Int)<m:=by omega
  have hW:=M.Gd.tdW_step (z:=(M.Tr.mk n1 l1 n2 l2 n3 l3 n4 l4 fl)) (f:=f) (i:=i)
  have hWb:=M.Gd.tdW_bd (z:=(M.Tr.mk n1 l1 n2 l2 n3 l3 n4 l4 fl)) k7.1 i
  have r2:R64 (M.Gd.tdW (M.Tr.mk n1 l1 n2 l2 n3 l3 n4 l4 fl) f i+1):=by unfold R64; omega
  have m64:=Int.tmod_nonneg 64 (show (0:Int)≤i by omega)
  have hF:M.Gd.tdF (M.Tr.mk n1 l1 n2 l2 n3 l3 n4 l4 fl) f i=(M.Tr.bit (M.Tr.mk n1 l1 n2 l2 n3 l3 n4 l4 fl) i && decide (M.Gd.tdW (M.Tr.mk n1 l1 n2 l2 n3 l3 n4 l4 fl) f i<f)):=rfl
  have eF:(bif M.Tr.bit (M.Tr.mk n1 l1 n2 l2 n3 l3 n4 l4 fl) i then decide (M.Gd.tdW (M.Tr.mk n1 l1 n2 l2 n3 l3 n4 l4 fl) f i<f) else false)=M.Gd.tdF (M.Tr.mk n1 l1 n2 l2 n3 l3 n4 l4 fl) f i:=by rw [hF]; cases M.Tr.bit (M.Tr.mk n1 l1 n2 l2 n3 l3 n4 l4 fl) i <;> rfl
  simp only [eF,r2]
  have hO:M.Gd.tdO g x s (M.Tr.mk n1 l1 n2 l2 n3 l3 n4 l4 fl) t f P i=(M.Gd.tdF (M.Tr.mk n1 l1 n2 l2 n3 l3 n4 l4 fl) f i || M.Gd.tdB (M.Gd.tdP g x s (M.Tr.mk n1 l1 n2 l2 n3 l3 n4 l4 fl) t (P i) i)):=rfl
  have hT:M.Gd.tdT g x s (M.Tr.mk n1 l1 n2 l2 n3 l3 n4 l4 fl) t f P i=if M.Gd.tdF (M.Tr.mk n1 l1 n2 l2 n3 l3 n4 l4 fl) f i=true then P i else M.Gd.tdP g x s (M.Tr.mk n1 l1 n2 l2 n3 l3 n4 l4 fl) t (P i) i:=rfl
  obtain ⟨TT,hTT⟩ : ∃ TT,TT=M.Gd.tdT g x s (M.Tr.mk n1 l1 n2 l2 n3 l3 n4 l4 fl) t f P:=⟨_,rfl⟩
  simp only [← hTT] at hT ⊢
  cases cF:M.Gd.tdF (M.Tr.mk n1 l1 n2 l2 n3 l3 n4 l4 fl) f i with
  | true =>
   rw [cF] at hW hO hT
   simp only [if_true] at hW hT
   have eA:M.alF (M.Gd.tdO g x s (M.Tr.mk n1 l1 n2 l2 n3 l3 n4 l4 fl) t f P) (m-i) i=M.alF (M.Gd.tdO g x s (M.Tr.mk n1 l1 n2 l2 n3 l3 n4 l4 fl) t f P) (m-(i+1)) (i+1):=M.alF_step hl (by rw [hO]; rfl)
   rw [eA]
   have e3:∀ (q:M.Pk→Int) (k:Nat),k<i+1→(bif decide (k<i) then q (TT k) else q (P i))=q (TT k):=fun q k hk=>by
    by_cases c:k<i
    ·simp [c]
    ·have:k=i:=by omega
     subst this; simp [hT]
   simp [hl,hl',hW,h2,h3,h6,h7,m64]
   exact ⟨by omega,⟨by omega,h4,h5⟩,by omega,fun k hk=>⟨e3 _ k hk,e3 _ k hk,e3 _ k hk,e3 _ k hk,e3 _ k hk,e3 _ k hk⟩⟩
  | false =>
   rw [cF] at hW hO hT
   simp only [Bool.false_or,Bool.false_eq_true,if_false] at hW hO hT
   have hvp:=k6 i hl
   obtain ⟨⟨v1,v2⟩,⟨v3,v4⟩,v5,v6⟩:=id hvp
   have v4':(P i).s<(ns:Int):=by omega
   have v4n:(P i).s.toNat<ns:=by omega
   have hst:=k3 (P i).s.toNat v4n
   have hkn:M.Gd.kn2 g s.c (x (P i).s.toNat)=0:=M.Gd.kn2_ok.2 ⟨k1,k4.2.1,hst⟩
   have hse:M.Gd.stE g s.q s.c (x (P i).s.toNat)=0:=by
    unfold M.Gd.stE
    rw [if_pos hkn,if_pos k4.2.2.1]
   obtain ⟨t1,t2,t3,t4⟩:=M.Gd.T_bd k1 k4.2.1 hst
   obtain ⟨s1,s2,s3⟩:=M.Gd.S_bd k1 (k:=s.q) k4.2.1 hst
   have hq:=k4.2.2.1
   obtain ⟨z1,z2,z3,z4⟩:=h3 i
   have z1':0≤M.num n1 l1 i∧M.num n1 l1 i≤4294967295:=z1
   have z2':0≤M.num n2 l2 i∧M.num n2 l2 i≤4294967295:=z2
   have z3':0≤M.num n3 l3 i∧M.num n3 l3 i≤65535:=z3
   have z4':0≤M.num n4 l4 i∧M.num n4 l4 i≤65535:=z4
   have hC:=M.into_in (u:=M.num n1 l1 i) t2 z1'.1
   have hD:=M.into_in (u:=M.num n2 l2 i) s1 z2'.1
   have m1:=Int.tmod_nonneg 100 z3'.1
   have m2:=Int.tmod_nonneg 100 z4'.1
   have m3:=Int.tmod_lt_of_pos (M.num n3 l3 i) (show (0:Int)<100 by omega)
   have m4:=Int.tmod_lt_of_pos (M.num n4 l4 i) (show (0:Int)<100 by omega)
   have eP:M.Gd.tdP g x s (M.Tr.mk n1 l1 n2 l2 n3 l3 n4 l4 fl) t (P i) i=(if (P i).k=1 then M.Pk.mk (P i).k (P i).s (max 0 (t+M.into (M.Gd.T0 g s.c (x (P i).s.toNat)) (M.Gd.T1 g s.c (x (P i).s.toNat)) (M.num n1 l1 i)-M.num n3 l3 i)) (t+M.into (M.Gd.T0 g s.c (x (P i).s.toNat)) (M.Gd.T1 g s.c (x (P i).s.toNat)) (M.num n1 l1 i)+M.num n4 l4 i) (P i).l0 (P i).l1
    else if (P i).k=2 then M.Pk.mk (P i).k (P i).s (P i).t0 (P i).t1 (M.into (M.Gd.S0 g s.q s.c (x (P i).s.toNat)) (M.Gd.S1 g s.q s.c (x (P i).s.toNat)) (M.num n2 l2 i)-Int.tmod (M.num n3 l3 i) 100) (M.into (M.Gd.S0 g s.q s.c (x (P i).s.toNat)) (M.Gd.S1 g s.q s.c (x (P i).s.toNat)) (M.num n2 l2 i)+Int.tmod (M.num n4 l4 i) 100)
    else M.Pk.mk (P i).k (P i).s (t+M.into (M.Gd.T0 g s.c (x (P i).s.toNat)) (M.Gd.T1 g s.c (x (P i).s.toNat)) (M.num n1 l1 i)-1-M.num n3 l3 i) (t+M.into (M.Gd.T0 g s.c (x (P i).s.toNat)) (M.Gd.T1 g s.c (x (P i).s.toNat)) (M.num n1 l1 i)+M.num n4 l4 i) (P i).l0 (P i).l1):=rfl
   rw [eP] at hO hT
   clear eP hvp
   obtain ⟨C,g_C⟩ : ∃ z,z=M.into (M.Gd.T0 g s.c (x (P i).s.toNat)) (M.Gd.T1 g s.c (x (P i).s.toNat)) (M.num n1 l1 i):=⟨_,rfl⟩
   simp only [← g_C] at *
   clear g_C
   obtain ⟨D,g_D⟩ : ∃ z,z=M.into (M.Gd.S0 g s.q s.c (x (P i).s.toNat)) (M.Gd.S1 g s.q s.c (x (P i).s.toNat)) (M.num n2 l2 i):=⟨_,rfl⟩
   simp only [← g_D] at *
   clear g_D
   obtain ⟨ta,g_ta⟩ : ∃ z,z=M.Gd.T0 g s.c (x (P i).s.toNat):=⟨_,rfl⟩
   simp only [← g_ta] at *
   clear g_ta
   obtain ⟨tb,g_tb⟩ : ∃ z,z=M.Gd.T1 g s.c (x (P i).s.toNat):=⟨_,rfl⟩
   simp only [← g_tb] at *
   clear g_tb
   obtain ⟨sa,g_sa⟩ : ∃ z,z=M.Gd.S0 g s.q s.c (x (P i).s.toNat):=⟨_,rfl⟩
   simp only [← g_sa] at *
   clear g_sa
   obtain ⟨sb,g_sb⟩ : ∃ z,z=M.Gd.S1 g s.q s.c (x (P i).s.toNat):=⟨_,rfl⟩
   simp only [← g_sb] at *
   clear g_sb
   obtain ⟨ea,g_ea⟩ : ∃ z,z=(M.num n3 l3 i).tmod 100:=⟨_,rfl⟩
   simp only [← g_ea] at *
   clear g_ea
   obtain ⟨la,g_la⟩ : ∃ z,z=(M.num n4 l4 i).tmod 100:=⟨_,rfl⟩
   simp only [← g_la] at *
   clear g_la
   obtain ⟨u1,g_u1⟩ : ∃ z,z=M.num n1 l1 i:=⟨_,rfl⟩
   simp only [← g_u1] at *
   clear g_u1
   obtain ⟨u2,g_u2⟩ : ∃ z,z=M.num n2 l2 i:=⟨_,rfl⟩
   simp only [← g_u2] at *
   clear g_u2
   obtain ⟨u3,g_u3⟩ : ∃ z,z=M.num n3 l3 i:=⟨_,rfl⟩
   simp only [← g_u3] at *
   clear g_u3
   obtain ⟨u4,g_u4⟩ : ∃ z,z=M.num n4 l4 i:=⟨_,rfl⟩
   simp only [← g_u4] at *
   clear g_u4
   have rr:∀ z:Int,-4000000000000≤z→z≤4000000000000→R64 z:=fun z h1 h2=>by unfold R64; omega
   have y1:R64 (t+C):=rr _ (by omega) (by omega)
   have y2:R64 (t+C-u3):=rr _ (by omega) (by omega)
   have y3:R64 (t+C+u4):=rr _ (by omega) (by omega)
   have y4:R64 (D-ea):=rr _ (by omega) (by omega)
   have y5:R64 (D+la):=rr _ (by omega) (by omega)
   have y6:R64 (t+C-1):=rr _ (by omega) (by omega)
   have y7:R64 (t+C-1-u3):=rr _ (by omega) (by omega)
   have e3:∀ (q:M.Pk→Int) (v:Int),q (TT i)=v→∀ k:Nat,k<i+1→(bif decide (k<i) then q (TT k) else v)=q (TT k):=fun q v hv k hk=>by
    by_cases c:k<i
    ·simp [c]
    ·have:k=i:=by omega
     subst this; simp [hv]
   have nn1:¬ tb<ta:=by omega
   have nn2:¬ sb<sa:=by omega
   simp only [hkn,hse,y1,y2,y3,y4,y5,y6,y7]
   cases hb:M.Gd.tdO g x s (M.Tr.mk n1 l1 n2 l2 n3 l3 n4 l4 fl) t f P i with
   | true =>
    rw [M.alF_step hl hb]
    rw [hb] at hO
    by_cases c1:(P i).k=1
    ·simp [c1,M.Gd.tdB] at hO hT
     simp [hl,hl',hW,h2,h3,h6,h7,m64,v3,v4',nn1,nn2,v4n,c1]
     exact ⟨by omega,by omega,by omega,by omega,by omega,by omega,by omega,by omega,by omega,by omega,h4,h5,fun h=>by omega,fun _ _=>⟨by omega,⟨by omega,h4,h5⟩,by omega,fun k hk=>⟨e3 _ _ (by simp [hT]) k hk,e3 _ _ (by simp [hT]) k hk,e3 _ _ (by simp [hT]) k hk,e3 _ _ (by simp [hT]) k hk,e3 _ _ (by simp [hT]) k hk,e3 _ _ (by simp [hT]) k hk⟩⟩⟩
    ·by_cases c2:(P i).k=2
     ·simp [c2,M.Gd.tdB] at hO hT
      simp [hl,hl',hW,h2,h3,h6,h7,m64,v3,v4',nn1,nn2,v4n,c2]
      exact ⟨by omega,by omega,by omega,by omega,by omega,by omega,by omega,by omega,by omega,by omega,h4,h5,fun h=>by omega,fun _ _=>⟨by omega,⟨by omega,h4,h5⟩,by omega,fun k hk=>⟨e3 _ _ (by simp [hT]) k hk,e3 _ _ (by simp [hT]) k hk,e3 _ _ (by simp [hT]) k hk,e3 _ _ (by simp [hT]) k hk,e3 _ _ (by simp [hT]) k hk,e3 _ _ (by simp [hT]) k hk⟩⟩⟩
     ·have c3:(P i).k=3:=by omega
      simp [c3,M.Gd.tdB] at hO hT
      simp [hl,hl',hW,h2,h3,h6,h7,m64,v3,v4',nn1,nn2,v4n,c3]
      exact ⟨by omega,by omega,by omega,by omega,by omega,by omega,by omega,by omega,by omega,by omega,h4,h5,fun h=>by omega,fun _ _=>⟨by omega,⟨by omega,h4,h5⟩,by omega,fun k hk=>⟨e3 _ _ (by simp [hT]) k hk,e3 _ _ (by simp [hT]) k hk,e3 _ _ (by simp [hT]) k hk,e3 _ _ (by simp [hT]) k hk,e3 _ _ (by simp [hT]) k hk,e3 _ _ (by simp [hT]) k hk⟩⟩⟩
   | false =>
    rw [M.alF_stop hl hb]
    rw [hb] at hO
    by_cases c1:(P i).k=1
    ·simp [c1,M.Gd.tdB] at hO
     simp [hl,hl',hW,h2,h3,h6,h7,m64,v3,v4',nn1,nn2,v4n,c1]
     exact ⟨by omega,by omega,by omega,by omega,by omega,by omega,by omega,by omega,by omega,by omega,h4,h5,fun _ _=>by omega⟩
    ·by_cases c2:(P i).k=2
     ·simp [c2,M.Gd.tdB] at hO
      simp [hl,hl',hW,h2,h3,h6,h7,m64,v3,v4',nn1,nn2,v4n,c2]
      exact ⟨by omega,by omega,by omega,by omega,by omega,by omega,by omega,by omega,by omega,by omega,h4,h5,fun _ _=>by omega⟩
     ·have c3:(P i).k=3:=by omega
      simp [c3,M.Gd.tdB] at hO
      simp [hl,hl',hW,h2,h3,h6,h7,m64,v3,v4',nn1,nn2,v4n,c3]
      exact ⟨by omega,by omega,by omega,by omega,by omega,by omega,by omega,by omega,by omega,by omega,h4,h5,fun _ _=>by omega⟩
 ·have e:i=m:=by omega
  subst e
  have eA:M.alF (M.Gd.tdO g x s (M.Tr.mk n1 l1 n2 l2 n3 l3 n4 l4 fl) t f P) (i-i) i=true:=by rw [Nat.sub_self]; rfl
  rw [eA]
  simp
theorem t37 (g:M.Gd) (ns:Nat) (x:Nat→Int) (n:Nat) (S:Nat→M.Sc) (m:Nat) (P:Nat→M.Pk) (f:Int) (s:M.Sc) (ix tm:Int) (n1:Nat) (l1:Nat→Int) (n2:Nat) (l2:Nat→Int) (n3:Nat) (l3:Nat→Int) (n4:Nat) (l4:Nat→Int) (fl:Int) (t:Int) {F:Fence} (hF:FOK F) (Y:YEnv PP YS.none):∀ Q A H nx,loopT false Try.f37.ntmps 0 (lp37 g ns x n S m P f s ix tm n1 l1 n2 l2 n3 l3 n4 l4 fl t) (fun _ _ _=>(0:Nat)) Q A H nx→WPS Y F Try.f37.ntmps 0 (.block 0 (blkAt 0 Try.f37)) Q A H nx :=
 loopW (E:=[]) (.nil) (O:=[(24,pureE e24u),(26,pureE e26t),(44,pureE e44),(81,pureE e81),(82,pureE e82)]) (.cons (pureE_ok s24u) (.cons (pureE_ok s26t) (.cons (pureE_ok s44) (.cons (pureE_ok s81) (.cons (pureE_ok s82) (.nil)))))) (ck:=true) (L:=[0,1,2,3,4,5,6,7,8,9,10,11,12,13,14,15,16,17,18,19,29,49,105,121,122,139,157,205]) (f:=Try.f37) (m:=0) (id:=0) (l:=(lp37 g ns x n S m P f s ix tm n1 l1 n2 l2 n3 l3 n4 l4 fl t)) (LI:=fun i=>[]) Y hF (by kernel_rfl) (fun _=>.nil) (by
  rintro i hp
  exact Hold.of (q37 g ns x n S m P f s ix tm n1 l1 n2 l2 n3 l3 n4 l4 fl t i) (bq37 g ns x n S m P f s ix tm n1 l1 n2 l2 n3 l3 n4 l4 fl t i ((peq37 g ns x n S m P f s ix tm n1 l1 n2 l2 n3 l3 n4 l4 fl t i).mp hp)))
def e37:List SV→Option (List Prop × SV)
 | [.agg [.int .i64 g_w,.int .i64 g_h,.int .i64 g_s,.int .i64 g_v0,.int .i64 g_v1,.int .i64 g_d0,.int .i64 g_d1,.int .i64 g_r,.sl 1 ns g_1,.sl 5 n g_2,.sl 6 m g_3,.int .i64 f],.agg [.int .i64 s_k,.int .i64 s_c,.int .i64 s_q,.int .i64 s_a,.int .i64 s_b],.agg [.int .u8 ix,.int .u32 tm,.sl 1 n1 g_4,.sl 1 n2 g_5,.sl 1 n3 g_6,.sl 1 n4 g_7,.int .u64 fl]]=>some ([Row 1 ns g_1,Row 5 n g_2,Row 6 m g_3,RowK .u32 1 n1 g_4,RowK .u32 1 n2 g_5,RowK .u16 1 n3 g_6,RowK .u16 1 n4 g_7,M.Gd.ck1 (M.Gd.mk g_w g_h g_s g_v0 g_v1 g_d0 g_d1 g_r) ns (cI g_1 0) (M.Sc.mk s_k s_c s_q s_a s_b) m (fun i=>M.Pk.mk (cI g_3 0 i) (cI g_3 1 i) (cI g_3 2 i) (cI g_3 3 i) (cI g_3 4 i) (cI g_3 5 i)) f=0,M.Tr.ok (M.Tr.mk n1 (cI g_4 0) n2 (cI g_5 0) n3 (cI g_6 0) n4 (cI g_7 0) fl),∀ k,k<n3→0≤(cI g_6 0) k∧(cI g_6 0) k≤65535,∀ k,k<n4→0≤(cI g_7 0) k∧(cI g_7 0) k≤65535,0≤tm,tm<4294967296],.tup [.sl 6 (if (M.Gd.tdA (M.Gd.mk g_w g_h g_s g_v0 g_v1 g_d0 g_d1 g_r) (cI g_1 0) (M.Sc.mk s_k s_c s_q s_a s_b) (M.Tr.mk n1 (cI g_4 0) n2 (cI g_5 0) n3 (cI g_6 0) n4 (cI g_7 0) fl) (M.into (M.Sc.a (M.Sc.mk s_k s_c s_q s_a s_b)) (M.Sc.b (M.Sc.mk s_k s_c s_q s_a s_b)) tm) f m (fun i=>M.Pk.mk (cI g_3 0 i) (cI g_3 1 i) (cI g_3 2 i) (cI g_3 3 i) (cI g_3 4 i) (cI g_3 5 i)))=true then m else 0) (fun k=>[SI (M.Pk.k ((M.Gd.tdT (M.Gd.mk g_w g_h g_s g_v0 g_v1 g_d0 g_d1 g_r) (cI g_1 0) (M.Sc.mk s_k s_c s_q s_a s_b) (M.Tr.mk n1 (cI g_4 0) n2 (cI g_5 0) n3 (cI g_6 0) n4 (cI g_7 0) fl) (M.into (M.Sc.a (M.Sc.mk s_k s_c s_q s_a s_b)) (M.Sc.b (M.Sc.mk s_k s_c s_q s_a s_b)) tm) f (fun i=>M.Pk.mk (cI g_3 0 i) (cI g_3 1 i) (cI g_3 2 i) (cI g_3 3 i) (cI g_3 4 i) (cI g_3 5 i))) k)),SI (M.Pk.s ((M.Gd.tdT (M.Gd.mk g_w g_h g_s g_v0 g_v1 g_d0 g_d1 g_r) (cI g_1 0) (M.Sc.mk s_k s_c s_q s_a s_b) (M.Tr.mk n1 (cI g_4 0) n2 (cI g_5 0) n3 (cI g_6 0) n4 (cI g_7 0) fl) (M.into (M.Sc.a (M.Sc.mk s_k s_c s_q s_a s_b)) (M.Sc.b (M.Sc.mk s_k s_c s_q s_a s_b)) tm) f (fun i=>M.Pk.mk (cI g_3 0 i) (cI g_3 1 i) (cI g_3 2 i) (cI g_3 3 i) (cI g_3 4 i) (cI g_3 5 i))) k)),SI (M.Pk.t0 ((M.Gd.tdT (M.Gd.mk g_w g_h g_s g_v0 g_v1 g_d0 g_d1 g_r) (cI g_1 0) (M.Sc.mk s_k s_c s_q s_a s_b) (M.Tr.mk n1 (cI g_4 0) n2 (cI g_5 0) n3 (cI g_6 0) n4 (cI g_7 0) fl) (M.into (M.Sc.a (M.Sc.mk s_k s_c s_q s_a s_b)) (M.Sc.b (M.Sc.mk s_k s_c s_q s_a s_b)) tm) f (fun i=>M.Pk.mk (cI g_3 0 i) (cI g_3 1 i) (cI g_3 2 i) (cI g_3 3 i) (cI g_3 4 i) (cI g_3 5 i))) k)),SI (M.Pk.t1 ((M.Gd.tdT (M.Gd.mk g_w g_h g_s g_v0 g_v1 g_d0 g_d1 g_r) (cI g_1 0) (M.Sc.mk s_k s_c s_q s_a s_b) (M.Tr.mk n1 (cI g_4 0) n2 (cI g_5 0) n3 (cI g_6 0) n4 (cI g_7 0) fl) (M.into (M.Sc.a (M.Sc.mk s_k s_c s_q s_a s_b)) (M.Sc.b (M.Sc.mk s_k s_c s_q s_a s_b)) tm) f (fun i=>M.Pk.mk (cI g_3 0 i) (cI g_3 1 i) (cI g_3 2 i) (cI g_3 3 i) (cI g_3 4 i) (cI g_3 5 i))) k)),SI (M.Pk.l0 ((M.Gd.tdT (M.Gd.mk g_w g_h g_s g_v0 g_v1 g_d0 g_d1 g_r) (cI g_1 0) (M.Sc.mk s_k s_c s_q s_a s_b) (M.Tr.mk n1 (cI g_4 0) n2 (cI g_5 0) n3 (cI g_6 0) n4 (cI g_7 0) fl) (M.into (M.Sc.a (M.Sc.mk s_k s_c s_q s_a s_b)) (M.Sc.b (M.Sc.mk s_k s_c s_q s_a s_b)) tm) f (fun i=>M.Pk.mk (cI g_3 0 i) (cI g_3 1 i) (cI g_3 2 i) (cI g_3 3 i) (cI g_3 4 i) (cI g_3 5 i))) k)),SI (M.Pk.l1 ((M.Gd.tdT (M.Gd.mk g_w g_h g_s g_v0 g_v1 g_d0 g_d1 g_r) (cI g_1 0) (M.Sc.mk s_k s_c s_q s_a s_b) (M.Tr.mk n1 (cI g_4 0) n2 (cI g_5 0) n3 (cI g_6 0) n4 (cI g_7 0) fl) (M.into (M.Sc.a (M.Sc.mk s_k s_c s_q s_a s_b)) (M.Sc.b (M.Sc.mk s_k s_c s_q s_a s_b)) tm) f (fun i=>M.Pk.mk (cI g_3 0 i) (cI g_3 1 i) (cI g_3 2 i) (cI g_3 3 i) (cI g_3 4 i) (cI g_3 5 i))) k))]),SI (if (M.Gd.tdA (M.Gd.mk g_w g_h g_s g_v0 g_v1 g_d0 g_d1 g_r) (cI g_1 0) (M.Sc.mk s_k s_c s_q s_a s_b) (M.Tr.mk n1 (cI g_4 0) n2 (cI g_5 0) n3 (cI g_6 0) n4 (cI g_7 0) fl) (M.into (M.Sc.a (M.Sc.mk s_k s_c s_q s_a s_b)) (M.Sc.b (M.Sc.mk s_k s_c s_q s_a s_b)) tm) f m (fun i=>M.Pk.mk (cI g_3 0 i) (cI g_3 1 i) (cI g_3 2 i) (cI g_3 3 i) (cI g_3 4 i) (cI g_3 5 i)))=true then (M.into (M.Sc.a (M.Sc.mk s_k s_c s_q s_a s_b)) (M.Sc.b (M.Sc.mk s_k s_c s_q s_a s_b)) tm) else 0),.bool (M.Gd.tdA (M.Gd.mk g_w g_h g_s g_v0 g_v1 g_d0 g_d1 g_r) (cI g_1 0) (M.Sc.mk s_k s_c s_q s_a s_b) (M.Tr.mk n1 (cI g_4 0) n2 (cI g_5 0) n3 (cI g_6 0) n4 (cI g_7 0) fl) (M.into (M.Sc.a (M.Sc.mk s_k s_c s_q s_a s_b)) (M.Sc.b (M.Sc.mk s_k s_c s_q s_a s_b)) tm) f m (fun i=>M.Pk.mk (cI g_3 0 i) (cI g_3 1 i) (cI g_3 2 i) (cI g_3 3 i) (cI g_3 4 i) (cI g_3 5 i)))])
 | _=>none
def Rr37 (g:M.Gd) (ns:Nat) (x:Nat→Int) (n:Nat) (S:Nat→M.Sc) (m:Nat) (P:Nat→M.Pk) (f:Int) (s:M.Sc) (ix tm:Int) (n1:Nat) (l1:Nat→Int) (n2:Nat) (l2:Nat→Int) (n3:Nat) (l3:Nat→Int) (n4:Nat) (l4:Nat→Int) (fl:Int):Prop:=(fun (z1 z4:Int) (z0:M.Tr) (z2:Nat)=>(fun (z3 z5:Bool)=>s.a≤s.b∧(- 1000000000000:Int)≤s.a∧s.b≤(1000000000000:Int)∧z4≤tm∧tm<(4294967296:Int)∧(z2≤m∧M.Gd.ck1 g ns x s m P f=z4∧M.Tr.ok z0∧(∀ (k:Nat),k<n3→z4≤l3 k∧l3 k≤(65535:Int))∧(∀ (k:Nat),k<n4→z4≤l4 k∧l4 k≤(65535:Int))∧z4≤z1∧z1≤(1000000000:Int))∧(z1=z1∧z2=z2∧z4=M.Gd.tdW z0 f z2∧z4=(↑z2:Int)∧g.w=g.w∧g.h=g.h∧g.s=g.s∧g.v0=g.v0∧g.v1=g.v1∧g.d0=g.d0∧g.d1=g.d1∧g.r=g.r∧(ns=ns∧∀ (k:Nat),k<ns→x k=x k)∧(n=n∧∀ (k:Nat),k<n→(S k).k=(S k).k∧(S k).c=(S k).c∧(S k).q=(S k).q∧(S k).a=(S k).a∧(S k).b=(S k).b)∧(m=m∧∀ (k:Nat),k<m→(P k).k=(P k).k∧(P k).s=(P k).s∧(P k).t0=(P k).t0∧(P k).t1=(P k).t1∧(P k).l0=(P k).l0∧(P k).l1=(P k).l1)∧f=f∧s.k=s.k∧s.c=s.c∧s.q=s.q∧s.a=s.a∧s.b=s.b∧ix=ix∧tm=tm∧(n1=n1∧∀ (k:Nat),k<n1→l1 k=l1 k)∧(n2=n2∧∀ (k:Nat),k<n2→l2 k=l2 k)∧(n3=n3∧∀ (k:Nat),k<n3→l3 k=l3 k)∧(n4=n4∧∀ (k:Nat),k<n4→l4 k=l4 k)∧fl=fl∧z2=z2∧True)∧(z5=false→z2+m≤m∧((m=if z3=true then m else z2)∧∀ (k:Nat),k<m→(M.Gd.tdT g x s z0 z1 f P (z2+k)).k=(M.Gd.tdT g x s z0 z1 f P k).k∧(M.Gd.tdT g x s z0 z1 f P (z2+k)).s=(M.Gd.tdT g x s z0 z1 f P k).s∧(M.Gd.tdT g x s z0 z1 f P (z2+k)).t0=(M.Gd.tdT g x s z0 z1 f P k).t0∧(M.Gd.tdT g x s z0 z1 f P (z2+k)).t1=(M.Gd.tdT g x s z0 z1 f P k).t1∧(M.Gd.tdT g x s z0 z1 f P (z2+k)).l0=(M.Gd.tdT g x s z0 z1 f P k).l0∧(M.Gd.tdT g x s z0 z1 f P (z2+k)).l1=(M.Gd.tdT g x s z0 z1 f P k).l1)∧(z1=if z3=true then z1 else z4)∧true=z3)∧(z5=true→(if z3=true then m else z2)=z2∧(z4=if z3=true then z1 else z4)∧false=z3)) (M.Gd.tdA g x s z0 z1 f m P) (!M.alF (M.Gd.tdO g x s z0 z1 f P) (m-z2) z2)) (M.into s.a s.b tm) (0:Int) (M.Tr.mk n1 l1 n2 l2 n3 l3 n4 l4 fl) (0:Nat)
theorem r37 (g:M.Gd) (ns:Nat) (x:Nat→Int) (n:Nat) (S:Nat→M.Sc) (m:Nat) (P:Nat→M.Pk) (f:Int) (s:M.Sc) (ix tm:Int) (n1:Nat) (l1:Nat→Int) (n2:Nat) (l2:Nat→Int) (n3:Nat) (l3:Nat→Int) (n4:Nat) (l4:Nat→Int) (fl:Int):V true [] [(44,pureE e44)] Try.f37 [0,1,2,3,4,5,6,7,8,9,10,11,12,13,14,15,16,17,18,19,29,49,105,121,122,139,157,205] [(0,loopT false Try.f37.ntmps 0 (lp37 g ns x n S m P f s ix tm n1 l1 n2 l2 n3 l3 n4 l4 fl (M.into (M.Sc.a s) (M.Sc.b s) tm)) (fun _ _ _=>(0:Nat)))] [.agg [SI (M.Gd.w g),SI (M.Gd.h g),SI (M.Gd.s g),SI (M.Gd.v0 g),SI (M.Gd.v1 g),SI (M.Gd.d0 g),SI (M.Gd.d1 g),SI (M.Gd.r g),.sl 1 ns (fun k=>[SI (x k)]),.sl 5 n (fun k=>[SI (M.Sc.k (S k)),SI (M.Sc.c (S k)),SI (M.Sc.q (S k)),SI (M.Sc.a (S k)),SI (M.Sc.b (S k))]),.sl 6 m (fun k=>[SI (M.Pk.k (P k)),SI (M.Pk.s (P k)),SI (M.Pk.t0 (P k)),SI (M.Pk.t1 (P k)),SI (M.Pk.l0 (P k)),SI (M.Pk.l1 (P k))]),SI f],.agg [SI (M.Sc.k s),SI (M.Sc.c s),SI (M.Sc.q s),SI (M.Sc.a s),SI (M.Sc.b s)],.agg [.int .u8 ix,.int .u32 tm,.sl 1 n1 (fun k=>[.int .u32 (l1 k)]),.sl 1 n2 (fun k=>[.int .u32 (l2 k)]),.sl 1 n3 (fun k=>[.int .u16 (l3 k)]),.sl 1 n4 (fun k=>[.int .u16 (l4 k)]),.int .u64 fl]] (.tup [.sl 6 (if (M.Gd.tdA g x s (M.Tr.mk n1 l1 n2 l2 n3 l3 n4 l4 fl) (M.into (M.Sc.a s) (M.Sc.b s) tm) f m P)=true then m else 0) (fun k=>[SI (M.Pk.k ((M.Gd.tdT g x s (M.Tr.mk n1 l1 n2 l2 n3 l3 n4 l4 fl) (M.into (M.Sc.a s) (M.Sc.b s) tm) f P) k)),SI (M.Pk.s ((M.Gd.tdT g x s (M.Tr.mk n1 l1 n2 l2 n3 l3 n4 l4 fl) (M.into (M.Sc.a s) (M.Sc.b s) tm) f P) k)),SI (M.Pk.t0 ((M.Gd.tdT g x s (M.Tr.mk n1 l1 n2 l2 n3 l3 n4 l4 fl) (M.into (M.Sc.a s) (M.Sc.b s) tm) f P) k)),SI (M.Pk.t1 ((M.Gd.tdT g x s (M.Tr.mk n1 l1 n2 l2 n3 l3 n4 l4 fl) (M.into (M.Sc.a s) (M.Sc.b s) tm) f P) k)),SI (M.Pk.l0 ((M.Gd.tdT g x s (M.Tr.mk n1 l1 n2 l2 n3 l3 n4 l4 fl) (M.into (M.Sc.a s) (M.Sc.b s) tm) f P) k)),SI (M.Pk.l1 ((M.Gd.tdT g x s (M.Tr.mk n1 l1 n2 l2 n3 l3 n4 l4 fl) (M.into (M.Sc.a s) (M.Sc.b s) tm) f P) k))]),SI (if (M.Gd.tdA g x s (M.Tr.mk n1 l1 n2 l2 n3 l3 n4 l4 fl) (M.into (M.Sc.a s) (M.Sc.b s) tm) f m P)=true then (M.into (M.Sc.a s) (M.Sc.b s) tm) else 0),.bool (M.Gd.tdA g x s (M.Tr.mk n1 l1 n2 l2 n3 l3 n4 l4 fl) (M.into (M.Sc.a s) (M.Sc.b s) tm) f m P)])=Rr37 g ns x n S m P f s ix tm n1 l1 n2 l2 n3 l3 n4 l4 fl:=by kernel_rfl
theorem br37 (g:M.Gd) (ns:Nat) (x:Nat→Int) (n:Nat) (S:Nat→M.Sc) (m:Nat) (P:Nat→M.Pk) (f:Int) (s:M.Sc) (ix tm:Int) (n1:Nat) (l1:Nat→Int) (n2:Nat) (l2:Nat→Int) (n3:Nat) (l3:Nat→Int) (n4:Nat) (l4:Nat→Int) (fl:Int) (hp:(M.Gd.ck1 g ns x s m P f=0)∧(M.Tr.ok (M.Tr.mk n1 l1 n2 l2 n3 l3 n4 l4 fl))∧(∀ k,k<n3→0≤l3 k∧l3 k≤65535)∧(∀ k,k<n4→0≤l4 k∧l4 k≤65535)∧(0≤tm)∧(tm<4294967296)∧AllP []):Rr37 g ns x n S m P f s ix tm n1 l1 n2 l2 n3 l3 n4 l4 fl:=by
 unfold Rr37
 dsimp -iota -proj -eta -zeta only
 obtain ⟨h1,h2,h3,h4,h5,h6,-⟩:=id hp
 obtain ⟨k1,k2,k3,k4,k5,k6,k7⟩:=M.Gd.ck1_ok h1
 obtain ⟨-,-,-,a1,a2,a3⟩:=k4
 have hi:=M.into_in (u:=tm) a2 h5
 have e:M.Gd.tdA g x s (M.Tr.mk n1 l1 n2 l2 n3 l3 n4 l4 fl) (M.into (M.Sc.a s) (M.Sc.b s) tm) f m P=M.alF (M.Gd.tdO g x s (M.Tr.mk n1 l1 n2 l2 n3 l3 n4 l4 fl) (M.into (M.Sc.a s) (M.Sc.b s) tm) f P) (m-0) 0:=rfl
 simp only [e]
 cases hA:M.alF (M.Gd.tdO g x s (M.Tr.mk n1 l1 n2 l2 n3 l3 n4 l4 fl) (M.into (M.Sc.a s) (M.Sc.b s) tm) f P) (m-0) 0 with
 | true =>
  simp [h1,h2,h5,h6,M.Gd.tdW]
  exact ⟨by omega,by omega,by omega,h3,h4,by omega,by omega⟩
 | false =>
  simp [h1,h2,h5,h6,M.Gd.tdW]
  exact ⟨by omega,by omega,by omega,h3,h4,by omega,by omega⟩
theorem s37:PureOK PP 37 e37:=by
 intro xs ps res h hp
 unfold e37 at h
 split at h
 ·rename_i g_w g_h g_s g_v0 g_v1 g_d0 g_d1 g_r ns g_1 n g_2 m g_3 f s_k s_c s_q s_a s_b ix tm n1 g_4 n2 g_5 n3 g_6 n4 g_7 fl
  cases h
  simp only [AllP.cons] at hp
  obtain ⟨Hg_1,Hg_2,Hg_3,hp⟩:=hp
  obtain ⟨Hg_4,Hg_5,hp⟩:=hp
  obtain ⟨Hg_6,Hg_7,hp⟩:=hp
  exact Spec.args (enterH (Hold.of (r37 (M.Gd.mk g_w g_h g_s g_v0 g_v1 g_d0 g_d1 g_r) ns (cI g_1 0) n (fun i=>M.Sc.mk (cI g_2 0 i) (cI g_2 1 i) (cI g_2 2 i) (cI g_2 3 i) (cI g_2 4 i)) m (fun i=>M.Pk.mk (cI g_3 0 i) (cI g_3 1 i) (cI g_3 2 i) (cI g_3 3 i) (cI g_3 4 i) (cI g_3 5 i)) f (M.Sc.mk s_k s_c s_q s_a s_b) ix tm n1 (cI g_4 0) n2 (cI g_5 0) n3 (cI g_6 0) n4 (cI g_7 0) fl) (br37 (M.Gd.mk g_w g_h g_s g_v0 g_v1 g_d0 g_d1 g_r) ns (cI g_1 0) n (fun i=>M.Sc.mk (cI g_2 0 i) (cI g_2 1 i) (cI g_2 2 i) (cI g_2 3 i) (cI g_2 4 i)) m (fun i=>M.Pk.mk (cI g_3 0 i) (cI g_3 1 i) (cI g_3 2 i) (cI g_3 3 i) (cI g_3 4 i) (cI g_3 5 i)) f (M.Sc.mk s_k s_c s_q s_a s_b) ix tm n1 (cI g_4 0) n2 (cI g_5 0) n3 (cI g_6 0) n4 (cI g_7 0) fl hp)) (.nil) (.cons (pureE_ok s44) (.nil)) (k:=37) (by kernel_rfl) (by kernel_rfl) (fun Y=>.cons (by kernel_rfl) (t37 (M.Gd.mk g_w g_h g_s g_v0 g_v1 g_d0 g_d1 g_r) ns (cI g_1 0) n (fun i=>M.Sc.mk (cI g_2 0 i) (cI g_2 1 i) (cI g_2 2 i) (cI g_2 3 i) (cI g_2 4 i)) m (fun i=>M.Pk.mk (cI g_3 0 i) (cI g_3 1 i) (cI g_3 2 i) (cI g_3 3 i) (cI g_3 4 i) (cI g_3 5 i)) f (M.Sc.mk s_k s_c s_q s_a s_b) ix tm n1 (cI g_4 0) n2 (cI g_5 0) n3 (cI g_6 0) n4 (cI g_7 0) fl (M.into (M.Sc.a (M.Sc.mk s_k s_c s_q s_a s_b)) (M.Sc.b (M.Sc.mk s_k s_c s_q s_a s_b)) tm) FOK.wide Y) (.nil))) (.cons (.agg (.cons (.refl _) (.cons (.refl _) (.cons (.refl _) (.cons (.refl _) (.cons (.refl _) (.cons (.refl _) (.cons (.refl _) (.cons (.refl _) (.cons (.row Hg_1 fun _=>rfl) (.cons (.row Hg_2 fun _=>rfl) (.cons (.row Hg_3 fun _=>rfl) (.cons (.refl _) .nil))))))))))))) (.cons (.refl _) (.cons (.agg (.cons (.refl _) (.cons (.refl _) (.cons (.rowK Hg_4 fun _=>rfl) (.cons (.rowK Hg_5 fun _=>rfl) (.cons (.rowK Hg_6 fun _=>rfl) (.cons (.rowK Hg_7 fun _=>rfl) (.cons (.refl _) .nil)))))))) .nil)))
 ·cases h
end Go.Proofs.Ytoncoofmijjgeaa.Sep
namespace Go.Proofs.Ytoncoofmijjgeaa.M
namespace Gd
end Gd
end Go.Proofs.Ytoncoofmijjgeaa.M
namespace Go.Proofs.Ytoncoofmijjgeaa.Sep
open Go
set_option linter.unusedVariables false
set_option linter.unusedSimpArgs false
def e37s:List SV→Option (List Prop × SV)
 | [.agg [.int .i64 g_w,.int .i64 g_h,.int .i64 g_s,.int .i64 g_v0,.int .i64 g_v1,.int .i64 g_d0,.int .i64 g_d1,.int .i64 g_r,.sl 1 ns g_1,.sl 5 n g_2,.sl 6 m g_3,.int .i64 f],.agg [.int .i64 s_k,.int .i64 s_c,.int .i64 s_q,.int .i64 s_a,.int .i64 s_b],.agg [.int .u8 ix,.int .u32 tm,.sl 1 n1 g_4,.sl 1 n2 g_5,.sl 1 n3 g_6,.sl 1 n4 g_7,.int .u64 fl]]=>some ([Row 1 ns g_1,Row 5 n g_2,Row 6 m g_3,RowK .u32 1 n1 g_4,RowK .u32 1 n2 g_5,RowK .u16 1 n3 g_6,RowK .u16 1 n4 g_7,M.Gd.ck1 (M.Gd.mk g_w g_h g_s g_v0 g_v1 g_d0 g_d1 g_r) ns (cI g_1 0) (M.Sc.mk s_k s_c s_q s_a s_b) m (fun i=>M.Pk.mk (cI g_3 0 i) (cI g_3 1 i) (cI g_3 2 i) (cI g_3 3 i) (cI g_3 4 i) (cI g_3 5 i)) f=0,M.Tr.ok (M.Tr.mk n1 (cI g_4 0) n2 (cI g_5 0) n3 (cI g_6 0) n4 (cI g_7 0) fl),∀ k,k<n3→0≤(cI g_6 0) k∧(cI g_6 0) k≤65535,∀ k,k<n4→0≤(cI g_7 0) k∧(cI g_7 0) k≤65535,0≤tm,tm<4294967296,(M.Gd.tdA (M.Gd.mk g_w g_h g_s g_v0 g_v1 g_d0 g_d1 g_r) (cI g_1 0) (M.Sc.mk s_k s_c s_q s_a s_b) (M.Tr.mk n1 (cI g_4 0) n2 (cI g_5 0) n3 (cI g_6 0) n4 (cI g_7 0) fl) (M.into (M.Sc.a (M.Sc.mk s_k s_c s_q s_a s_b)) (M.Sc.b (M.Sc.mk s_k s_c s_q s_a s_b)) tm) f m (fun i=>M.Pk.mk (cI g_3 0 i) (cI g_3 1 i) (cI g_3 2 i) (cI g_3 3 i) (cI g_3 4 i) (cI g_3 5 i)))=true],.tup [.sl 6 m (fun k=>[SI (M.Pk.k ((M.Gd.tdT (M.Gd.mk g_w g_h g_s g_v0 g_v1 g_d0 g_d1 g_r) (cI g_1 0) (M.Sc.mk s_k s_c s_q s_a s_b) (M.Tr.mk n1 (cI g_4 0) n2 (cI g_5 0) n3 (cI g_6 0) n4 (cI g_7 0) fl) (M.into (M.Sc.a (M.Sc.mk s_k s_c s_q s_a s_b)) (M.Sc.b (M.Sc.mk s_k s_c s_q s_a s_b)) tm) f (fun i=>M.Pk.mk (cI g_3 0 i) (cI g_3 1 i) (cI g_3 2 i) (cI g_3 3 i) (cI g_3 4 i) (cI g_3 5 i))) k)),SI (M.Pk.s ((M.Gd.tdT (M.Gd.mk g_w g_h g_s g_v0 g_v1 g_d0 g_d1 g_r) (cI g_1 0) (M.Sc.mk s_k s_c s_q s_a s_b) (M.Tr.mk n1 (cI g_4 0) n2 (cI g_5 0) n3 (cI g_6 0) n4 (cI g_7 0) fl) (M.into (M.Sc.a (M.Sc.mk s_k s_c s_q s_a s_b)) (M.Sc.b (M.Sc.mk s_k s_c s_q s_a s_b)) tm) f (fun i=>M.Pk.mk (cI g_3 0 i) (cI g_3 1 i) (cI g_3 2 i) (cI g_3 3 i) (cI g_3 4 i) (cI g_3 5 i))) k)),SI (M.Pk.t0 ((M.Gd.tdT (M.Gd.mk g_w g_h g_s g_v0 g_v1 g_d0 g_d1 g_r) (cI g_1 0) (M.Sc.mk s_k s_c s_q s_a s_b) (M.Tr.mk n1 (cI g_4 0) n2 (cI g_5 0) n3 (cI g_6 0) n4 (cI g_7 0) fl) (M.into (M.Sc.a (M.Sc.mk s_k s_c s_q s_a s_b)) (M.Sc.b (M.Sc.mk s_k s_c s_q s_a s_b)) tm) f (fun i=>M.Pk.mk (cI g_3 0 i) (cI g_3 1 i) (cI g_3 2 i) (cI g_3 3 i) (cI g_3 4 i) (cI g_3 5 i))) k)),SI (M.Pk.t1 ((M.Gd.tdT (M.Gd.mk g_w g_h g_s g_v0 g_v1 g_d0 g_d1 g_r) (cI g_1 0) (M.Sc.mk s_k s_c s_q s_a s_b) (M.Tr.mk n1 (cI g_4 0) n2 (cI g_5 0) n3 (cI g_6 0) n4 (cI g_7 0) fl) (M.into (M.Sc.a (M.Sc.mk s_k s_c s_q s_a s_b)) (M.Sc.b (M.Sc.mk s_k s_c s_q s_a s_b)) tm) f (fun i=>M.Pk.mk (cI g_3 0 i) (cI g_3 1 i) (cI g_3 2 i) (cI g_3 3 i) (cI g_3 4 i) (cI g_3 5 i))) k)),SI (M.Pk.l0 ((M.Gd.tdT (M.Gd.mk g_w g_h g_s g_v0 g_v1 g_d0 g_d1 g_r) (cI g_1 0) (M.Sc.mk s_k s_c s_q s_a s_b) (M.Tr.mk n1 (cI g_4 0) n2 (cI g_5 0) n3 (cI g_6 0) n4 (cI g_7 0) fl) (M.into (M.Sc.a (M.Sc.mk s_k s_c s_q s_a s_b)) (M.Sc.b (M.Sc.mk s_k s_c s_q s_a s_b)) tm) f (fun i=>M.Pk.mk (cI g_3 0 i) (cI g_3 1 i) (cI g_3 2 i) (cI g_3 3 i) (cI g_3 4 i) (cI g_3 5 i))) k)),SI (M.Pk.l1 ((M.Gd.tdT (M.Gd.mk g_w g_h g_s g_v0 g_v1 g_d0 g_d1 g_r) (cI g_1 0) (M.Sc.mk s_k s_c s_q s_a s_b) (M.Tr.mk n1 (cI g_4 0) n2 (cI g_5 0) n3 (cI g_6 0) n4 (cI g_7 0) fl) (M.into (M.Sc.a (M.Sc.mk s_k s_c s_q s_a s_b)) (M.Sc.b (M.Sc.mk s_k s_c s_q s_a s_b)) tm) f (fun i=>M.Pk.mk (cI g_3 0 i) (cI g_3 1 i) (cI g_3 2 i) (cI g_3 3 i) (cI g_3 4 i) (cI g_3 5 i))) k))]),SI (M.into (M.Sc.a (M.Sc.mk s_k s_c s_q s_a s_b)) (M.Sc.b (M.Sc.mk s_k s_c s_q s_a s_b)) tm),.bool true])
 | _=>none
theorem s37s:PureOK PP 37 e37s:=by
 intro xs ps res h hp
 unfold e37s at h
 split at h
 ·rename_i g_w g_h g_s g_v0 g_v1 g_d0 g_d1 g_r ns g_1 n g_2 m g_3 f s_k s_c s_q s_a s_b ix tm n1 g_4 n2 g_5 n3 g_6 n4 g_7 fl
  cases h
  simp only [AllP.cons] at hp
  obtain ⟨Hg_1,Hg_2,Hg_3,hp⟩:=hp
  obtain ⟨Hg_4,Hg_5,hp⟩:=hp
  obtain ⟨Hg_6,Hg_7,hp⟩:=hp
  have h6:=s37 [.agg [.int .i64 g_w,.int .i64 g_h,.int .i64 g_s,.int .i64 g_v0,.int .i64 g_v1,.int .i64 g_d0,.int .i64 g_d1,.int .i64 g_r,.sl 1 ns g_1,.sl 5 n g_2,.sl 6 m g_3,.int .i64 f],.agg [.int .i64 s_k,.int .i64 s_c,.int .i64 s_q,.int .i64 s_a,.int .i64 s_b],.agg [.int .u8 ix,.int .u32 tm,.sl 1 n1 g_4,.sl 1 n2 g_5,.sl 1 n3 g_6,.sl 1 n4 g_7,.int .u64 fl]] _ _ rfl (AllP.cons.2 ⟨Hg_1,(AllP.cons.2 ⟨Hg_2,(AllP.cons.2 ⟨Hg_3,(AllP.cons.2 ⟨Hg_4,(AllP.cons.2 ⟨Hg_5,(AllP.cons.2 ⟨Hg_6,(AllP.cons.2 ⟨Hg_7,(AllP.cons.2 ⟨(hp.1),(AllP.cons.2 ⟨(hp.2.1),(AllP.cons.2 ⟨(hp.2.2.1),(AllP.cons.2 ⟨(hp.2.2.2.1),(AllP.cons.2 ⟨(hp.2.2.2.2.1),(AllP.cons.2 ⟨(hp.2.2.2.2.2.1),AllP.nil⟩)⟩)⟩)⟩)⟩)⟩)⟩)⟩)⟩)⟩)⟩)⟩)⟩)
  simp only [hp.2.2.2.2.2.2.1,if_true] at h6
  exact h6
 ·cases h
def lp10 (g:M.Gd) (ns:Nat) (x:Nat→Int) (n:Nat) (S:Nat→M.Sc) (m:Nat) (P:Nat→M.Pk) (f:Int) (s:M.Sc) (ix tm:Int) (n1:Nat) (l1:Nat→Int) (n2:Nat) (l2:Nat→Int) (n3:Nat) (l3:Nat→Int) (n4:Nat) (l4:Nat→Int) (fl:Int):LoopS where
 ι:=Nat
 β:=Unit
 pre i:=i≤m∧m≤70
 μ i:=m-i
 next i _ _ _:=i+1
 out _:=()
 early _:=false
 SA i:=[(2,.ptr 0 0),(7,.ptr 1 0),(8,.sl 6 m (fun k=>[SI (M.Pk.k ((M.Gd.tdT g x s (M.Tr.mk n1 l1 n2 l2 n3 l3 n4 l4 fl) (M.into (M.Sc.a s) (M.Sc.b s) tm) f P) k)),SI (M.Pk.s ((M.Gd.tdT g x s (M.Tr.mk n1 l1 n2 l2 n3 l3 n4 l4 fl) (M.into (M.Sc.a s) (M.Sc.b s) tm) f P) k)),SI (M.Pk.t0 ((M.Gd.tdT g x s (M.Tr.mk n1 l1 n2 l2 n3 l3 n4 l4 fl) (M.into (M.Sc.a s) (M.Sc.b s) tm) f P) k)),SI (M.Pk.t1 ((M.Gd.tdT g x s (M.Tr.mk n1 l1 n2 l2 n3 l3 n4 l4 fl) (M.into (M.Sc.a s) (M.Sc.b s) tm) f P) k)),SI (M.Pk.l0 ((M.Gd.tdT g x s (M.Tr.mk n1 l1 n2 l2 n3 l3 n4 l4 fl) (M.into (M.Sc.a s) (M.Sc.b s) tm) f P) k)),SI (M.Pk.l1 ((M.Gd.tdT g x s (M.Tr.mk n1 l1 n2 l2 n3 l3 n4 l4 fl) (M.into (M.Sc.a s) (M.Sc.b s) tm) f P) k))])),(15,.vec 2 1 0 i),(16,SI i)]
 SH i:=[(0,.cells [SI (M.Gd.w g),SI (M.Gd.h g),SI (M.Gd.s g),SI (M.Gd.v0 g),SI (M.Gd.v1 g),SI (M.Gd.d0 g),SI (M.Gd.d1 g),SI (M.Gd.r g),.sl 1 ns (fun k=>[SI (x k)]),.sl 5 n (fun k=>[SI (M.Sc.k (S k)),SI (M.Sc.c (S k)),SI (M.Sc.q (S k)),SI (M.Sc.a (S k)),SI (M.Sc.b (S k))]),.sl 6 m (fun k=>[SI (M.Pk.k (P k)),SI (M.Pk.s (P k)),SI (M.Pk.t0 (P k)),SI (M.Pk.t1 (P k)),SI (M.Pk.l0 (P k)),SI (M.Pk.l1 (P k))]),SI f]),(1,.cells [SI (M.Sc.k s),SI (M.Sc.c s),SI (M.Sc.q s),SI (M.Sc.a s),SI (M.Sc.b s)]),(2,.row 1 i (fun k=>[SI k]))]
 n0:=3
 NA _:=[(2,.ptr 0 0),(7,.ptr 1 0),(8,.sl 6 m (fun k=>[SI (M.Pk.k ((M.Gd.tdT g x s (M.Tr.mk n1 l1 n2 l2 n3 l3 n4 l4 fl) (M.into (M.Sc.a s) (M.Sc.b s) tm) f P) k)),SI (M.Pk.s ((M.Gd.tdT g x s (M.Tr.mk n1 l1 n2 l2 n3 l3 n4 l4 fl) (M.into (M.Sc.a s) (M.Sc.b s) tm) f P) k)),SI (M.Pk.t0 ((M.Gd.tdT g x s (M.Tr.mk n1 l1 n2 l2 n3 l3 n4 l4 fl) (M.into (M.Sc.a s) (M.Sc.b s) tm) f P) k)),SI (M.Pk.t1 ((M.Gd.tdT g x s (M.Tr.mk n1 l1 n2 l2 n3 l3 n4 l4 fl) (M.into (M.Sc.a s) (M.Sc.b s) tm) f P) k)),SI (M.Pk.l0 ((M.Gd.tdT g x s (M.Tr.mk n1 l1 n2 l2 n3 l3 n4 l4 fl) (M.into (M.Sc.a s) (M.Sc.b s) tm) f P) k)),SI (M.Pk.l1 ((M.Gd.tdT g x s (M.Tr.mk n1 l1 n2 l2 n3 l3 n4 l4 fl) (M.into (M.Sc.a s) (M.Sc.b s) tm) f P) k))])),(15,.vec 2 1 0 m)]
 NH _:=[(0,.cells [SI (M.Gd.w g),SI (M.Gd.h g),SI (M.Gd.s g),SI (M.Gd.v0 g),SI (M.Gd.v1 g),SI (M.Gd.d0 g),SI (M.Gd.d1 g),SI (M.Gd.r g),.sl 1 ns (fun k=>[SI (x k)]),.sl 5 n (fun k=>[SI (M.Sc.k (S k)),SI (M.Sc.c (S k)),SI (M.Sc.q (S k)),SI (M.Sc.a (S k)),SI (M.Sc.b (S k))]),.sl 6 m (fun k=>[SI (M.Pk.k (P k)),SI (M.Pk.s (P k)),SI (M.Pk.t0 (P k)),SI (M.Pk.t1 (P k)),SI (M.Pk.l0 (P k)),SI (M.Pk.l1 (P k))]),SI f]),(1,.cells [SI (M.Sc.k s),SI (M.Sc.c s),SI (M.Sc.q s),SI (M.Sc.a s),SI (M.Sc.b s)]),(2,.row 1 m (fun k=>[SI k]))]
 n1:=3
 RA _:=[]
 RH _:=[]
def Rq10 (g:M.Gd) (ns:Nat) (x:Nat→Int) (n:Nat) (S:Nat→M.Sc) (m:Nat) (P:Nat→M.Pk) (f:Int) (s:M.Sc) (ix tm:Int) (n1:Nat) (l1:Nat→Int) (n2:Nat) (l2:Nat→Int) (n3:Nat) (l3:Nat→Int) (n4:Nat) (l4:Nat→Int) (fl:Int) (i:Nat):Prop:=(fun (z5:Int) (z3:Nat) (z0 z1 z2 z4:Prop)=>(decide (z5<(↑m:Int))=true→(0:Nat)+(1:Nat)≤(1:Nat)∧(∀ (k:Nat),k<(1:Nat)→true=true)∧i≤i∧z3*(8:Nat)≤(140737488355328:Nat)∧R64 (z5+(1:Int))∧(z3≤m∧m≤(70:Nat))∧m-z3<m-i∧()=()∧z0∧(0:Nat)=(0:Nat)∧z3=z3∧z5+(1:Int)=(↑z3:Int)∧g.w=g.w∧g.h=g.h∧g.s=g.s∧g.v0=g.v0∧g.v1=g.v1∧g.d0=g.d0∧g.d1=g.d1∧g.r=g.r∧z4∧z2∧z1∧f=f∧s.k=s.k∧s.c=s.c∧s.q=s.q∧s.a=s.a∧s.b=s.b∧z3≤z3∧(∀ (k:Nat),k<z3→(bif decide (k<i) then (↑k:Int) else z5)=(↑k:Int))∧True)∧(decide (z5<(↑m:Int))=false→false=false∧z0∧(0:Nat)=(0:Nat)∧i=m∧g.w=g.w∧g.h=g.h∧g.s=g.s∧g.v0=g.v0∧g.v1=g.v1∧g.d0=g.d0∧g.d1=g.d1∧g.r=g.r∧z4∧z2∧z1∧f=f∧s.k=s.k∧s.c=s.c∧s.q=s.q∧s.a=s.a∧s.b=s.b∧m≤i∧(∀ (k:Nat),k<m→(↑k:Int)=(↑k:Int))∧True)) (↑i:Int) (i+(1:Nat)) (m=m∧∀ (k:Nat),k<m→(M.Gd.tdT g x s (M.Tr.mk n1 l1 n2 l2 n3 l3 n4 l4 fl) (M.into s.a s.b tm) f P k).k=(M.Gd.tdT g x s (M.Tr.mk n1 l1 n2 l2 n3 l3 n4 l4 fl) (M.into s.a s.b tm) f P k).k∧(M.Gd.tdT g x s (M.Tr.mk n1 l1 n2 l2 n3 l3 n4 l4 fl) (M.into s.a s.b tm) f P k).s=(M.Gd.tdT g x s (M.Tr.mk n1 l1 n2 l2 n3 l3 n4 l4 fl) (M.into s.a s.b tm) f P k).s∧(M.Gd.tdT g x s (M.Tr.mk n1 l1 n2 l2 n3 l3 n4 l4 fl) (M.into s.a s.b tm) f P k).t0=(M.Gd.tdT g x s (M.Tr.mk n1 l1 n2 l2 n3 l3 n4 l4 fl) (M.into s.a s.b tm) f P k).t0∧(M.Gd.tdT g x s (M.Tr.mk n1 l1 n2 l2 n3 l3 n4 l4 fl) (M.into s.a s.b tm) f P k).t1=(M.Gd.tdT g x s (M.Tr.mk n1 l1 n2 l2 n3 l3 n4 l4 fl) (M.into s.a s.b tm) f P k).t1∧(M.Gd.tdT g x s (M.Tr.mk n1 l1 n2 l2 n3 l3 n4 l4 fl) (M.into s.a s.b tm) f P k).l0=(M.Gd.tdT g x s (M.Tr.mk n1 l1 n2 l2 n3 l3 n4 l4 fl) (M.into s.a s.b tm) f P k).l0∧(M.Gd.tdT g x s (M.Tr.mk n1 l1 n2 l2 n3 l3 n4 l4 fl) (M.into s.a s.b tm) f P k).l1=(M.Gd.tdT g x s (M.Tr.mk n1 l1 n2 l2 n3 l3 n4 l4 fl) (M.into s.a s.b tm) f P k).l1) (m=m∧∀ (k:Nat),k<m→(P k).k=(P k).k∧(P k).s=(P k).s∧(P k).t0=(P k).t0∧(P k).t1=(P k).t1∧(P k).l0=(P k).l0∧(P k).l1=(P k).l1) (n=n∧∀ (k:Nat),k<n→(S k).k=(S k).k∧(S k).c=(S k).c∧(S k).q=(S k).q∧(S k).a=(S k).a∧(S k).b=(S k).b) (ns=ns∧∀ (k:Nat),k<ns→x k=x k)
theorem q10 (g:M.Gd) (ns:Nat) (x:Nat→Int) (n:Nat) (S:Nat→M.Sc) (m:Nat) (P:Nat→M.Pk) (f:Int) (s:M.Sc) (ix tm:Int) (n1:Nat) (l1:Nat→Int) (n2:Nat) (l2:Nat→Int) (n3:Nat) (l3:Nat→Int) (n4:Nat) (l4:Nat→Int) (fl:Int) (i:Nat):VL true [] [] YS.none Try.f10 0 [0,1,2,3,4,6,7,8,9,10,11,12,13,14,15,16,29,44,55,101,166,170] [] 0 (lp10 g ns x n S m P f s ix tm n1 l1 n2 l2 n3 l3 n4 l4 fl) (i)=Rq10 g ns x n S m P f s ix tm n1 l1 n2 l2 n3 l3 n4 l4 fl i:=by kernel_rfl
theorem peq10 (g:M.Gd) (ns:Nat) (x:Nat→Int) (n:Nat) (S:Nat→M.Sc) (m:Nat) (P:Nat→M.Pk) (f:Int) (s:M.Sc) (ix tm:Int) (n1:Nat) (l1:Nat→Int) (n2:Nat) (l2:Nat→Int) (n3:Nat) (l3:Nat→Int) (n4:Nat) (l4:Nat→Int) (fl:Int) (i:Nat):(lp10 g ns x n S m P f s ix tm n1 l1 n2 l2 n3 l3 n4 l4 fl).pre (i)=(i≤m∧m≤(70:Nat)):=by kernel_rfl
theorem bq10 (g:M.Gd) (ns:Nat) (x:Nat→Int) (n:Nat) (S:Nat→M.Sc) (m:Nat) (P:Nat→M.Pk) (f:Int) (s:M.Sc) (ix tm:Int) (n1:Nat) (l1:Nat→Int) (n2:Nat) (l2:Nat→Int) (n3:Nat) (l3:Nat→Int) (n4:Nat) (l4:Nat→Int) (fl:Int) (i:Nat) (hp:i≤m∧m≤(70:Nat)):Rq10 g ns x n S m P f s ix tm n1 l1 n2 l2 n3 l3 n4 l4 fl i:=by
 unfold Rq10
 dsimp -iota -proj -eta -zeta only
 obtain ⟨h1,h2⟩:=id hp
 have r1:R64 ((i:Int)+1):=by unfold R64; omega
 simp only [Int.toNat_natCast,r1]
 by_cases hl:i<m
 ·have hl':(i:Int)<m:=by omega
  have e3:∀ k,k<i+1→(bif decide (k<i) then (k:Int) else (i:Int))=k:=fun k hk=>by
   by_cases c:k<i
   ·simp [c]
   ·simp [c]; omega
  simp [hl,hl',h2]
  first | omega | (repeat' apply And.intro) <;> first | omega | exact fun k hk2=>by simpa using e3 k hk2
 ·have e:i=m:=by omega
  subst e
  simp
theorem t10 (g:M.Gd) (ns:Nat) (x:Nat→Int) (n:Nat) (S:Nat→M.Sc) (m:Nat) (P:Nat→M.Pk) (f:Int) (s:M.Sc) (ix tm:Int) (n1:Nat) (l1:Nat→Int) (n2:Nat) (l2:Nat→Int) (n3:Nat) (l3:Nat→Int) (n4:Nat) (l4:Nat→Int) (fl:Int) {F:Fence} (hF:FOK F) (Y:YEnv PP YS.none):∀ Q A H nx,loopT false Try.f10.ntmps 0 (lp10 g ns x n S m P f s ix tm n1 l1 n2 l2 n3 l3 n4 l4 fl) (fun _ _ _=>(0:Nat)) Q A H nx→WPS Y F Try.f10.ntmps 0 (.block 0 (blkAt 0 Try.f10)) Q A H nx :=
 loopW (E:=[]) (.nil) (O:=[]) (.nil) (ck:=true) (L:=[0,1,2,3,4,6,7,8,9,10,11,12,13,14,15,16,29,44,55,101,166,170]) (f:=Try.f10) (m:=0) (id:=0) (l:=(lp10 g ns x n S m P f s ix tm n1 l1 n2 l2 n3 l3 n4 l4 fl)) (LI:=fun i=>[]) Y hF (by kernel_rfl) (fun _=>.nil) (by
  rintro i hp
  exact Hold.of (q10 g ns x n S m P f s ix tm n1 l1 n2 l2 n3 l3 n4 l4 fl i) (bq10 g ns x n S m P f s ix tm n1 l1 n2 l2 n3 l3 n4 l4 fl i ((peq10 g ns x n S m P f s ix tm n1 l1 n2 l2 n3 l3 n4 l4 fl i).mp hp)))
def e10a:List SV→Option (List Prop × SV)
 | [.agg [.int .i64 g_w,.int .i64 g_h,.int .i64 g_s,.int .i64 g_v0,.int .i64 g_v1,.int .i64 g_d0,.int .i64 g_d1,.int .i64 g_r,.sl 1 ns g_1,.sl 5 n g_2,.sl 6 m g_3,.int .i64 f],.agg [.int .u8 ix,.int .u32 tm,.sl 1 n1 g_4,.sl 1 n2 g_5,.sl 1 n3 g_6,.sl 1 n4 g_7,.int .u64 fl]]=>some ([Row 1 ns g_1,Row 5 n g_2,Row 6 m g_3,RowK .u32 1 n1 g_4,RowK .u32 1 n2 g_5,RowK .u16 1 n3 g_6,RowK .u16 1 n4 g_7,M.Gd.rnB (M.Gd.mk g_w g_h g_s g_v0 g_v1 g_d0 g_d1 g_r) ns (cI g_1 0) n (fun i=>M.Sc.mk (cI g_2 0 i) (cI g_2 1 i) (cI g_2 2 i) (cI g_2 3 i) (cI g_2 4 i)) m (fun i=>M.Pk.mk (cI g_3 0 i) (cI g_3 1 i) (cI g_3 2 i) (cI g_3 3 i) (cI g_3 4 i) (cI g_3 5 i)) f=false],.bool true)
 | _=>none
def Rr10a (g:M.Gd) (ns:Nat) (x:Nat→Int) (n:Nat) (S:Nat→M.Sc) (m:Nat) (P:Nat→M.Pk) (f:Int) (ix tm:Int) (n1:Nat) (l1:Nat→Int) (n2:Nat) (l2:Nat→Int) (n3:Nat) (l3:Nat→Int) (n4:Nat) (l4:Nat→Int) (fl:Int):Prop:=(fun (z0:Bool) (z1:Int)=>(fun (z3 z4:Bool) (z2:Prop)=>(∀ (k:Nat),k<ns→x k=x k)∧(∀ (k:Nat),k<n→(S k).k=(S k).k∧(S k).c=(S k).c∧(S k).q=(S k).q∧(S k).a=(S k).a∧(S k).b=(S k).b)∧(∀ (k:Nat),k<m→(P k).k=(P k).k∧(P k).s=(P k).s∧(P k).t0=(P k).t0∧(P k).t1=(P k).t1∧(P k).l0=(P k).l0∧(P k).l1=(P k).l1)∧(z2→z2)∧(z2→z2)∧(z2→z2)∧(z0=false→z2)∧(z3=true→true=true)∧(z3=false→R64 ix∧(↑n:Int)≠(0:Int)∧(0:Int)≤z1∧z1<(↑n:Int)∧Int.toNat z1<n∧(z4=true→true=true)∧(z4=false→False))) (bif z0 then true else decide ((↑n:Int)=(0:Int))) (!decide ((S (Int.toNat z1)).k=(1:Int))) ((!z0)=true)) (!M.Gd.rnB g ns x n S m P f) (Int.tmod ix (↑n:Int))
theorem r10a (g:M.Gd) (ns:Nat) (x:Nat→Int) (n:Nat) (S:Nat→M.Sc) (m:Nat) (P:Nat→M.Pk) (f:Int) (ix tm:Int) (n1:Nat) (l1:Nat→Int) (n2:Nat) (l2:Nat→Int) (n3:Nat) (l3:Nat→Int) (n4:Nat) (l4:Nat→Int) (fl:Int):V true eqs [(17,pureE e17),(22,pureE e22)] Try.f10 [0,1,2,3,4,6,7,8,9,10,11,12,13,14,15,16,29,44,55,101,166,170] [] [.agg [SI (M.Gd.w g),SI (M.Gd.h g),SI (M.Gd.s g),SI (M.Gd.v0 g),SI (M.Gd.v1 g),SI (M.Gd.d0 g),SI (M.Gd.d1 g),SI (M.Gd.r g),.sl 1 ns (fun k=>[SI (x k)]),.sl 5 n (fun k=>[SI (M.Sc.k (S k)),SI (M.Sc.c (S k)),SI (M.Sc.q (S k)),SI (M.Sc.a (S k)),SI (M.Sc.b (S k))]),.sl 6 m (fun k=>[SI (M.Pk.k (P k)),SI (M.Pk.s (P k)),SI (M.Pk.t0 (P k)),SI (M.Pk.t1 (P k)),SI (M.Pk.l0 (P k)),SI (M.Pk.l1 (P k))]),SI f],.agg [.int .u8 ix,.int .u32 tm,.sl 1 n1 (fun k=>[.int .u32 (l1 k)]),.sl 1 n2 (fun k=>[.int .u32 (l2 k)]),.sl 1 n3 (fun k=>[.int .u16 (l3 k)]),.sl 1 n4 (fun k=>[.int .u16 (l4 k)]),.int .u64 fl]] (.bool true)=Rr10a g ns x n S m P f ix tm n1 l1 n2 l2 n3 l3 n4 l4 fl:=by kernel_rfl
theorem br10a (g:M.Gd) (ns:Nat) (x:Nat→Int) (n:Nat) (S:Nat→M.Sc) (m:Nat) (P:Nat→M.Pk) (f:Int) (ix tm:Int) (n1:Nat) (l1:Nat→Int) (n2:Nat) (l2:Nat→Int) (n3:Nat) (l3:Nat→Int) (n4:Nat) (l4:Nat→Int) (fl:Int) (hp:(M.Gd.rnB g ns x n S m P f=false)∧AllP []):Rr10a g ns x n S m P f ix tm n1 l1 n2 l2 n3 l3 n4 l4 fl:=by
 unfold Rr10a
 dsimp -iota -proj -eta -zeta only
 obtain ⟨hB,-⟩:=id hp
 simp [hB]
theorem s10a:PureOK PP 10 e10a:=by
 intro xs ps res h hp
 unfold e10a at h
 split at h
 ·rename_i g_w g_h g_s g_v0 g_v1 g_d0 g_d1 g_r ns g_1 n g_2 m g_3 f ix tm n1 g_4 n2 g_5 n3 g_6 n4 g_7 fl
  cases h
  simp only [AllP.cons] at hp
  obtain ⟨Hg_1,Hg_2,Hg_3,hp⟩:=hp
  obtain ⟨Hg_4,Hg_5,hp⟩:=hp
  obtain ⟨Hg_6,Hg_7,hp⟩:=hp
  exact Spec.args (enterH (Hold.of (r10a (M.Gd.mk g_w g_h g_s g_v0 g_v1 g_d0 g_d1 g_r) ns (cI g_1 0) n (fun i=>M.Sc.mk (cI g_2 0 i) (cI g_2 1 i) (cI g_2 2 i) (cI g_2 3 i) (cI g_2 4 i)) m (fun i=>M.Pk.mk (cI g_3 0 i) (cI g_3 1 i) (cI g_3 2 i) (cI g_3 3 i) (cI g_3 4 i) (cI g_3 5 i)) f ix tm n1 (cI g_4 0) n2 (cI g_5 0) n3 (cI g_6 0) n4 (cI g_7 0) fl) (br10a (M.Gd.mk g_w g_h g_s g_v0 g_v1 g_d0 g_d1 g_r) ns (cI g_1 0) n (fun i=>M.Sc.mk (cI g_2 0 i) (cI g_2 1 i) (cI g_2 2 i) (cI g_2 3 i) (cI g_2 4 i)) m (fun i=>M.Pk.mk (cI g_3 0 i) (cI g_3 1 i) (cI g_3 2 i) (cI g_3 3 i) (cI g_3 4 i) (cI g_3 5 i)) f ix tm n1 (cI g_4 0) n2 (cI g_5 0) n3 (cI g_6 0) n4 (cI g_7 0) fl hp)) (eqsok) (.cons (pureE_ok s17) (.cons (pureE_ok s22) (.nil))) (k:=10) (by kernel_rfl) (by kernel_rfl) (fun _=>.nil)) (.cons (.agg (.cons (.refl _) (.cons (.refl _) (.cons (.refl _) (.cons (.refl _) (.cons (.refl _) (.cons (.refl _) (.cons (.refl _) (.cons (.refl _) (.cons (.row Hg_1 fun _=>rfl) (.cons (.row Hg_2 fun _=>rfl) (.cons (.row Hg_3 fun _=>rfl) (.cons (.refl _) .nil))))))))))))) (.cons (.agg (.cons (.refl _) (.cons (.refl _) (.cons (.rowK Hg_4 fun _=>rfl) (.cons (.rowK Hg_5 fun _=>rfl) (.cons (.rowK Hg_6 fun _=>rfl) (.cons (.rowK Hg_7 fun _=>rfl) (.cons (.refl _) .nil)))))))) .nil))
 ·cases h
def e10b:List SV→Option (List Prop × SV)
 | [.agg [.int .i64 g_w,.int .i64 g_h,.int .i64 g_s,.int .i64 g_v0,.int .i64 g_v1,.int .i64 g_d0,.int .i64 g_d1,.int .i64 g_r,.sl 1 ns g_1,.sl 5 n g_2,.sl 6 m g_3,.int .i64 f],.agg [.int .u8 ix,.int .u32 tm,.sl 1 n1 g_4,.sl 1 n2 g_5,.sl 1 n3 g_6,.sl 1 n4 g_7,.int .u64 fl]]=>some ([Row 1 ns g_1,Row 5 n g_2,Row 6 m g_3,RowK .u32 1 n1 g_4,RowK .u32 1 n2 g_5,RowK .u16 1 n3 g_6,RowK .u16 1 n4 g_7,M.Gd.rnB (M.Gd.mk g_w g_h g_s g_v0 g_v1 g_d0 g_d1 g_r) ns (cI g_1 0) n (fun i=>M.Sc.mk (cI g_2 0 i) (cI g_2 1 i) (cI g_2 2 i) (cI g_2 3 i) (cI g_2 4 i)) m (fun i=>M.Pk.mk (cI g_3 0 i) (cI g_3 1 i) (cI g_3 2 i) (cI g_3 3 i) (cI g_3 4 i) (cI g_3 5 i)) f=true,0≤ix,ix<256,0≤tm,tm<4294967296,M.Tr.ok (M.Tr.mk n1 (cI g_4 0) n2 (cI g_5 0) n3 (cI g_6 0) n4 (cI g_7 0) fl),∀ k,k<n3→0≤(cI g_6 0) k∧(cI g_6 0) k≤65535,∀ k,k<n4→0≤(cI g_7 0) k∧(cI g_7 0) k≤65535,¬ (n≠0∧((fun i=>M.Sc.mk (cI g_2 0 i) (cI g_2 1 i) (cI g_2 2 i) (cI g_2 3 i) (cI g_2 4 i)) (Int.tmod ix n).toNat).k=1∧M.Gd.tdA (M.Gd.mk g_w g_h g_s g_v0 g_v1 g_d0 g_d1 g_r) (cI g_1 0) ((fun i=>M.Sc.mk (cI g_2 0 i) (cI g_2 1 i) (cI g_2 2 i) (cI g_2 3 i) (cI g_2 4 i)) (Int.tmod ix n).toNat) (M.Tr.mk n1 (cI g_4 0) n2 (cI g_5 0) n3 (cI g_6 0) n4 (cI g_7 0) fl) (M.into (M.Sc.a ((fun i=>M.Sc.mk (cI g_2 0 i) (cI g_2 1 i) (cI g_2 2 i) (cI g_2 3 i) (cI g_2 4 i)) (Int.tmod ix n).toNat)) (M.Sc.b ((fun i=>M.Sc.mk (cI g_2 0 i) (cI g_2 1 i) (cI g_2 2 i) (cI g_2 3 i) (cI g_2 4 i)) (Int.tmod ix n).toNat)) tm) f m (fun i=>M.Pk.mk (cI g_3 0 i) (cI g_3 1 i) (cI g_3 2 i) (cI g_3 3 i) (cI g_3 4 i) (cI g_3 5 i))=true)],.bool true)
 | _=>none
def Rr10b (g:M.Gd) (ns:Nat) (x:Nat→Int) (n:Nat) (S:Nat→M.Sc) (m:Nat) (P:Nat→M.Pk) (f:Int) (ix tm:Int) (n1:Nat) (l1:Nat→Int) (n2:Nat) (l2:Nat→Int) (n3:Nat) (l3:Nat→Int) (n4:Nat) (l4:Nat→Int) (fl:Int):Prop:=(fun (z7 z9:Int) (z1 z2 z4 z6:Prop)=>(fun (z5:Bool) (z0:Nat)=>(fun (z3 z8:Bool)=>z6∧z2∧z1∧M.Gd.rnB g ns x n S m P f=true∧(z4→z4)∧(z4→z4)∧(z4→z4)∧((!true)=false→z4)∧(z5=true→true=true)∧(z5=false→R64 ix∧z9≠z7∧z7≤Int.tmod ix z9∧Int.tmod ix z9<z9∧z0<n∧(z8=true→true=true)∧(z8=false→z6∧z2∧z1∧(∀ (k:Nat),k<n1→l1 k=l1 k)∧(∀ (k:Nat),k<n2→l2 k=l2 k)∧(∀ (k:Nat),k<n3→l3 k=l3 k)∧(∀ (k:Nat),k<n4→l4 k=l4 k)∧M.Gd.ck1 g ns x (S z0) m P f=z7∧M.Tr.ok (M.Tr.mk n1 l1 n2 l2 n3 l3 n4 l4 fl)∧(∀ (k:Nat),k<n3→z7≤l3 k∧l3 k≤(65535:Int))∧(∀ (k:Nat),k<n4→z7≤l4 k∧l4 k≤(65535:Int))∧z7≤tm∧tm<(4294967296:Int)∧(z3=true→true=true)∧(z3=false→False)))) (!M.Gd.tdA g x (S z0) (M.Tr.mk n1 l1 n2 l2 n3 l3 n4 l4 fl) (M.into (S z0).a (S z0).b tm) f m P) (!decide ((S z0).k=(1:Int)))) (bif !true then true else decide (z9=z7)) (Int.toNat (Int.tmod ix z9))) (0:Int) (↑n:Int) (∀ (k:Nat),k<m→(P k).k=(P k).k∧(P k).s=(P k).s∧(P k).t0=(P k).t0∧(P k).t1=(P k).t1∧(P k).l0=(P k).l0∧(P k).l1=(P k).l1) (∀ (k:Nat),k<n→(S k).k=(S k).k∧(S k).c=(S k).c∧(S k).q=(S k).q∧(S k).a=(S k).a∧(S k).b=(S k).b) ((!!true)=true) (∀ (k:Nat),k<ns→x k=x k)
theorem r10b (g:M.Gd) (ns:Nat) (x:Nat→Int) (n:Nat) (S:Nat→M.Sc) (m:Nat) (P:Nat→M.Pk) (f:Int) (ix tm:Int) (n1:Nat) (l1:Nat→Int) (n2:Nat) (l2:Nat→Int) (n3:Nat) (l3:Nat→Int) (n4:Nat) (l4:Nat→Int) (fl:Int):V true eqs [(17,pureE e17),(22,pureE e22t),(37,pureE e37)] Try.f10 [0,1,2,3,4,6,7,8,9,10,11,12,13,14,15,16,29,44,55,101,166,170] [] [.agg [SI (M.Gd.w g),SI (M.Gd.h g),SI (M.Gd.s g),SI (M.Gd.v0 g),SI (M.Gd.v1 g),SI (M.Gd.d0 g),SI (M.Gd.d1 g),SI (M.Gd.r g),.sl 1 ns (fun k=>[SI (x k)]),.sl 5 n (fun k=>[SI (M.Sc.k (S k)),SI (M.Sc.c (S k)),SI (M.Sc.q (S k)),SI (M.Sc.a (S k)),SI (M.Sc.b (S k))]),.sl 6 m (fun k=>[SI (M.Pk.k (P k)),SI (M.Pk.s (P k)),SI (M.Pk.t0 (P k)),SI (M.Pk.t1 (P k)),SI (M.Pk.l0 (P k)),SI (M.Pk.l1 (P k))]),SI f],.agg [.int .u8 ix,.int .u32 tm,.sl 1 n1 (fun k=>[.int .u32 (l1 k)]),.sl 1 n2 (fun k=>[.int .u32 (l2 k)]),.sl 1 n3 (fun k=>[.int .u16 (l3 k)]),.sl 1 n4 (fun k=>[.int .u16 (l4 k)]),.int .u64 fl]] (.bool true)=Rr10b g ns x n S m P f ix tm n1 l1 n2 l2 n3 l3 n4 l4 fl:=by kernel_rfl
theorem br10b (g:M.Gd) (ns:Nat) (x:Nat→Int) (n:Nat) (S:Nat→M.Sc) (m:Nat) (P:Nat→M.Pk) (f:Int) (ix tm:Int) (n1:Nat) (l1:Nat→Int) (n2:Nat) (l2:Nat→Int) (n3:Nat) (l3:Nat→Int) (n4:Nat) (l4:Nat→Int) (fl:Int) (hp:(M.Gd.rnB g ns x n S m P f=true)∧(0≤ix)∧(ix<256)∧(0≤tm)∧(tm<4294967296)∧(M.Tr.ok (M.Tr.mk n1 l1 n2 l2 n3 l3 n4 l4 fl))∧(∀ k,k<n3→0≤l3 k∧l3 k≤65535)∧(∀ k,k<n4→0≤l4 k∧l4 k≤65535)∧(¬ (n≠0∧(S (Int.tmod ix n).toNat).k=1∧M.Gd.tdA g x (S (Int.tmod ix n).toNat) (M.Tr.mk n1 l1 n2 l2 n3 l3 n4 l4 fl) (M.into (M.Sc.a (S (Int.tmod ix n).toNat)) (M.Sc.b (S (Int.tmod ix n).toNat)) tm) f m P=true))∧AllP []):Rr10b g ns x n S m P f ix tm n1 l1 n2 l2 n3 l3 n4 l4 fl:=by
 unfold Rr10b
 dsimp -iota -proj -eta -zeta only
 obtain ⟨hB,i1,i2,u1,u2,hz,h3,h4,hn,-⟩:=id hp
 obtain ⟨⟨m1,m2,m3,m4⟩,hC⟩:=M.rnB_ok.1 hB
 by_cases c0:n=0
 ·subst c0; simp [hB]
 obtain ⟨a,ea,ha⟩ : ∃ a:Nat,Int.tmod ix n=a∧a<n:=⟨(Int.tmod ix n).toNat,by have:=Int.tmod_nonneg (n:Int) i1; omega,by have:=Int.tmod_lt_of_pos ix (show 0<(n:Int) by omega); have:=Int.tmod_nonneg (n:Int) i1; omega⟩
 have r1:R64 ix:=by unfold R64; omega
 simp only [ea,Int.toNat_natCast,hB,r1] at hn ⊢
 by_cases c1:(S a).k=1
 ·have hk1:M.Gd.ck1 g ns x (S a) m P f=0:=by
   obtain ⟨k1,k2,k3,⟨k4,k5⟩,k6,k7,k8⟩:=hC
   exact M.Gd.ckE_ok.2 ⟨k1,k2,k3,⟨by omega,fun _ _=>k5 a ha⟩,k6,k7,k8⟩
  have hA:M.Gd.tdA g x (S a) (M.Tr.mk n1 l1 n2 l2 n3 l3 n4 l4 fl) (M.into (S a).a (S a).b tm) f m P=false:=by
   cases h:M.Gd.tdA g x (S a) (M.Tr.mk n1 l1 n2 l2 n3 l3 n4 l4 fl) (M.into (S a).a (S a).b tm) f m P with
   | false=>rfl
   | true=>exact absurd ⟨c0,c1,h⟩ hn
  simp [hA,c0,c1,hk1,hz,u1,u2]
  exact ⟨by omega,h3,h4⟩
 ·simp [c0,c1]
  omega
theorem s10b:PureOK PP 10 e10b:=by
 intro xs ps res h hp
 unfold e10b at h
 split at h
 ·rename_i g_w g_h g_s g_v0 g_v1 g_d0 g_d1 g_r ns g_1 n g_2 m g_3 f ix tm n1 g_4 n2 g_5 n3 g_6 n4 g_7 fl
  cases h
  simp only [AllP.cons] at hp
  obtain ⟨Hg_1,Hg_2,Hg_3,hp⟩:=hp
  obtain ⟨Hg_4,Hg_5,hp⟩:=hp
  obtain ⟨Hg_6,Hg_7,hp⟩:=hp
  exact Spec.args (enterH (Hold.of (r10b (M.Gd.mk g_w g_h g_s g_v0 g_v1 g_d0 g_d1 g_r) ns (cI g_1 0) n (fun i=>M.Sc.mk (cI g_2 0 i) (cI g_2 1 i) (cI g_2 2 i) (cI g_2 3 i) (cI g_2 4 i)) m (fun i=>M.Pk.mk (cI g_3 0 i) (cI g_3 1 i) (cI g_3 2 i) (cI g_3 3 i) (cI g_3 4 i) (cI g_3 5 i)) f ix tm n1 (cI g_4 0) n2 (cI g_5 0) n3 (cI g_6 0) n4 (cI g_7 0) fl) (br10b (M.Gd.mk g_w g_h g_s g_v0 g_v1 g_d0 g_d1 g_r) ns (cI g_1 0) n (fun i=>M.Sc.mk (cI g_2 0 i) (cI g_2 1 i) (cI g_2 2 i) (cI g_2 3 i) (cI g_2 4 i)) m (fun i=>M.Pk.mk (cI g_3 0 i) (cI g_3 1 i) (cI g_3 2 i) (cI g_3 3 i) (cI g_3 4 i) (cI g_3 5 i)) f ix tm n1 (cI g_4 0) n2 (cI g_5 0) n3 (cI g_6 0) n4 (cI g_7 0) fl hp)) (eqsok) (.cons (pureE_ok s17) (.cons (pureE_ok s22t) (.cons (pureE_ok s37) (.nil)))) (k:=10) (by kernel_rfl) (by kernel_rfl) (fun _=>.nil)) (.cons (.agg (.cons (.refl _) (.cons (.refl _) (.cons (.refl _) (.cons (.refl _) (.cons (.refl _) (.cons (.refl _) (.cons (.refl _) (.cons (.refl _) (.cons (.row Hg_1 fun _=>rfl) (.cons (.row Hg_2 fun _=>rfl) (.cons (.row Hg_3 fun _=>rfl) (.cons (.refl _) .nil))))))))))))) (.cons (.agg (.cons (.refl _) (.cons (.refl _) (.cons (.rowK Hg_4 fun _=>rfl) (.cons (.rowK Hg_5 fun _=>rfl) (.cons (.rowK Hg_6 fun _=>rfl) (.cons (.rowK Hg_7 fun _=>rfl) (.cons (.refl _) .nil)))))))) .nil))
 ·cases h
def e10c:List SV→Option (List Prop × SV)
 | [.agg [.int .i64 g_w,.int .i64 g_h,.int .i64 g_s,.int .i64 g_v0,.int .i64 g_v1,.int .i64 g_d0,.int .i64 g_d1,.int .i64 g_r,.sl 1 ns g_1,.sl 5 n g_2,.sl 6 m g_3,.int .i64 f],.agg [.int .u8 ix,.int .u32 tm,.sl 1 n1 g_4,.sl 1 n2 g_5,.sl 1 n3 g_6,.sl 1 n4 g_7,.int .u64 fl]]=>some ([Row 1 ns g_1,Row 5 n g_2,Row 6 m g_3,RowK .u32 1 n1 g_4,RowK .u32 1 n2 g_5,RowK .u16 1 n3 g_6,RowK .u16 1 n4 g_7,M.Gd.rnB (M.Gd.mk g_w g_h g_s g_v0 g_v1 g_d0 g_d1 g_r) ns (cI g_1 0) n (fun i=>M.Sc.mk (cI g_2 0 i) (cI g_2 1 i) (cI g_2 2 i) (cI g_2 3 i) (cI g_2 4 i)) m (fun i=>M.Pk.mk (cI g_3 0 i) (cI g_3 1 i) (cI g_3 2 i) (cI g_3 3 i) (cI g_3 4 i) (cI g_3 5 i)) f=true,0≤ix,ix<256,0≤tm,tm<4294967296,M.Tr.ok (M.Tr.mk n1 (cI g_4 0) n2 (cI g_5 0) n3 (cI g_6 0) n4 (cI g_7 0) fl),∀ k,k<n3→0≤(cI g_6 0) k∧(cI g_6 0) k≤65535,∀ k,k<n4→0≤(cI g_7 0) k∧(cI g_7 0) k≤65535,(n≠0∧((fun i=>M.Sc.mk (cI g_2 0 i) (cI g_2 1 i) (cI g_2 2 i) (cI g_2 3 i) (cI g_2 4 i)) (Int.tmod ix n).toNat).k=1∧M.Gd.tdA (M.Gd.mk g_w g_h g_s g_v0 g_v1 g_d0 g_d1 g_r) (cI g_1 0) ((fun i=>M.Sc.mk (cI g_2 0 i) (cI g_2 1 i) (cI g_2 2 i) (cI g_2 3 i) (cI g_2 4 i)) (Int.tmod ix n).toNat) (M.Tr.mk n1 (cI g_4 0) n2 (cI g_5 0) n3 (cI g_6 0) n4 (cI g_7 0) fl) (M.into (M.Sc.a ((fun i=>M.Sc.mk (cI g_2 0 i) (cI g_2 1 i) (cI g_2 2 i) (cI g_2 3 i) (cI g_2 4 i)) (Int.tmod ix n).toNat)) (M.Sc.b ((fun i=>M.Sc.mk (cI g_2 0 i) (cI g_2 1 i) (cI g_2 2 i) (cI g_2 3 i) (cI g_2 4 i)) (Int.tmod ix n).toNat)) tm) f m (fun i=>M.Pk.mk (cI g_3 0 i) (cI g_3 1 i) (cI g_3 2 i) (cI g_3 3 i) (cI g_3 4 i) (cI g_3 5 i))=true)],.bool true)
 | _=>none
def Rr10c (g:M.Gd) (ns:Nat) (x:Nat→Int) (n:Nat) (S:Nat→M.Sc) (m:Nat) (P:Nat→M.Pk) (f:Int) (ix tm:Int) (n1:Nat) (l1:Nat→Int) (n2:Nat) (l2:Nat→Int) (n3:Nat) (l3:Nat→Int) (n4:Nat) (l4:Nat→Int) (fl:Int):Prop:=let z_0:Nat:=(Int.toNat (0:Int)); let z_1:Nat:=(Int.toNat (Int.tmod ix (↑n:Int))); let z_2:Int:=(M.into (S z_1).a (S z_1).b tm); let z_3:M.Tr:=(M.Tr.mk n1 l1 n2 l2 n3 l3 n4 l4 fl); let z_4:Nat→M.Pk:=(M.Gd.tdT g x (S z_1) z_3 z_2 f P); let z_5:Nat→M.Sc:=(M.Gd.leR g x (fun i=>S z_1) m z_4 f (1:Nat)); (∀ (k:Nat),k<ns→x k=x k)∧(∀ (k:Nat),k<n→(S k).k=(S k).k∧(S k).c=(S k).c∧(S k).q=(S k).q∧(S k).a=(S k).a∧(S k).b=(S k).b)∧(∀ (k:Nat),k<m→(P k).k=(P k).k∧(P k).s=(P k).s∧(P k).t0=(P k).t0∧(P k).t1=(P k).t1∧(P k).l0=(P k).l0∧(P k).l1=(P k).l1)∧M.Gd.rnB g ns x n S m P f=true∧((!!true)=true→(!!true)=true)∧((!!true)=true→(!!true)=true)∧((!!true)=true→(!!true)=true)∧((!true)=false→(!!true)=true)∧((bif !true then true else decide ((↑n:Int)=(0:Int)))=true→true=true)∧((bif !true then true else decide ((↑n:Int)=(0:Int)))=false→R64 ix∧(↑n:Int)≠(0:Int)∧(0:Int)≤Int.tmod ix (↑n:Int)∧Int.tmod ix (↑n:Int)<(↑n:Int)∧z_1<n∧((!decide ((S z_1).k=(1:Int)))=true→true=true)∧((!decide ((S z_1).k=(1:Int)))=false→(∀ (k:Nat),k<ns→x k=x k)∧(∀ (k:Nat),k<n→(S k).k=(S k).k∧(S k).c=(S k).c∧(S k).q=(S k).q∧(S k).a=(S k).a∧(S k).b=(S k).b)∧(∀ (k:Nat),k<m→(P k).k=(P k).k∧(P k).s=(P k).s∧(P k).t0=(P k).t0∧(P k).t1=(P k).t1∧(P k).l0=(P k).l0∧(P k).l1=(P k).l1)∧(∀ (k:Nat),k<n1→l1 k=l1 k)∧(∀ (k:Nat),k<n2→l2 k=l2 k)∧(∀ (k:Nat),k<n3→l3 k=l3 k)∧(∀ (k:Nat),k<n4→l4 k=l4 k)∧M.Gd.ck1 g ns x (S z_1) m P f=(0:Int)∧M.Tr.ok z_3∧(∀ (k:Nat),k<n3→(0:Int)≤l3 k∧l3 k≤(65535:Int))∧(∀ (k:Nat),k<n4→(0:Int)≤l4 k∧l4 k≤(65535:Int))∧(0:Int)≤tm∧tm<(4294967296:Int)∧M.Gd.tdA g x (S z_1) z_3 z_2 f m P=true∧((!true)=true→true=true)∧((!true)=false→(0:Nat)+(1:Nat)≤(1:Nat)∧(∀ (k:Nat),k<ns→x k=x k)∧(∀ (k:Nat),k<(1:Nat)→(S z_1).k=(S z_1).k∧(S z_1).c=(S z_1).c∧(S z_1).q=(S z_1).q∧(S z_1).a=(S z_1).a∧(S z_1).b=(S z_1).b)∧(∀ (k:Nat),k<m→(z_4 k).k=(z_4 k).k∧(z_4 k).s=(z_4 k).s∧(z_4 k).t0=(z_4 k).t0∧(z_4 k).t1=(z_4 k).t1∧(z_4 k).l0=(z_4 k).l0∧(z_4 k).l1=(z_4 k).l1)∧ns≤(100000:Nat)∧(1:Nat)≤(100000:Nat)∧m≤(100000:Nat)∧M.Gd.ckE g ns x (1:Nat) (fun i=>S z_1) m z_4 f=(0:Int)∧(∀ (k:Nat),k<ns→x k=x k)∧(∀ (k:Nat),k<m→(z_4 k).k=(z_4 k).k∧(z_4 k).s=(z_4 k).s∧(z_4 k).t0=(z_4 k).t0∧(z_4 k).t1=(z_4 k).t1∧(z_4 k).l0=(z_4 k).l0∧(z_4 k).l1=(z_4 k).l1)∧ns≤(100000:Nat)∧m≤(100000:Nat)∧M.Gd.ck1 g ns x (S z_1) m z_4 f=(0:Int)∧((!!decide ((0:Int)=(0:Int)))=true→(!!decide ((0:Int)=(0:Int)))=true)∧((!decide ((0:Int)=(0:Int)))=false→(!!decide ((0:Int)=(0:Int)))=true)∧((bif !decide ((0:Int)=(0:Int)) then true else !decide ((0:Int)=(0:Int)))=false→(!bif !decide ((0:Int)=(0:Int)) then true else !decide ((0:Int)=(0:Int)))=true)∧((!bif bif !decide ((0:Int)=(0:Int)) then true else !decide ((0:Int)=(0:Int)) then true else M.Gd.stA g x (S z_1) m z_4 f)=true→(!bif bif !decide ((0:Int)=(0:Int)) then true else !decide ((0:Int)=(0:Int)) then true else M.Gd.stA g x (S z_1) m z_4 f)=true)∧((!bif bif !decide ((0:Int)=(0:Int)) then true else !decide ((0:Int)=(0:Int)) then true else M.Gd.stA g x (S z_1) m z_4 f)=true→(!bif bif !decide ((0:Int)=(0:Int)) then true else !decide ((0:Int)=(0:Int)) then true else M.Gd.stA g x (S z_1) m z_4 f)=true)∧((bif bif !decide ((0:Int)=(0:Int)) then true else !decide ((0:Int)=(0:Int)) then true else M.Gd.stA g x (S z_1) m z_4 f)=false→(!bif bif !decide ((0:Int)=(0:Int)) then true else !decide ((0:Int)=(0:Int)) then true else M.Gd.stA g x (S z_1) m z_4 f)=true)∧((!bif bif bif !decide ((0:Int)=(0:Int)) then true else !decide ((0:Int)=(0:Int)) then true else M.Gd.stA g x (S z_1) m z_4 f then true else !decide ((↑(M.Gd.pfN g x (S z_1) m z_4 f):Int)=(0:Int)))=true→(!bif bif bif !decide ((0:Int)=(0:Int)) then true else !decide ((0:Int)=(0:Int)) then true else M.Gd.stA g x (S z_1) m z_4 f then true else !decide ((↑(M.Gd.pfN g x (S z_1) m z_4 f):Int)=(0:Int)))=true)∧((!bif bif bif !decide ((0:Int)=(0:Int)) then true else !decide ((0:Int)=(0:Int)) then true else M.Gd.stA g x (S z_1) m z_4 f then true else !decide ((↑(M.Gd.pfN g x (S z_1) m z_4 f):Int)=(0:Int)))=true→(!bif bif bif !decide ((0:Int)=(0:Int)) then true else !decide ((0:Int)=(0:Int)) then true else M.Gd.stA g x (S z_1) m z_4 f then true else !decide ((↑(M.Gd.pfN g x (S z_1) m z_4 f):Int)=(0:Int)))=true)∧((bif bif bif !decide ((0:Int)=(0:Int)) then true else !decide ((0:Int)=(0:Int)) then true else M.Gd.stA g x (S z_1) m z_4 f then true else !decide ((↑(M.Gd.pfN g x (S z_1) m z_4 f):Int)=(0:Int)))=false→(!bif bif bif !decide ((0:Int)=(0:Int)) then true else !decide ((0:Int)=(0:Int)) then true else M.Gd.stA g x (S z_1) m z_4 f then true else !decide ((↑(M.Gd.pfN g x (S z_1) m z_4 f):Int)=(0:Int)))=true)∧((bif bif bif bif !decide ((0:Int)=(0:Int)) then true else !decide ((0:Int)=(0:Int)) then true else M.Gd.stA g x (S z_1) m z_4 f then true else !decide ((↑(M.Gd.pfN g x (S z_1) m z_4 f):Int)=(0:Int)) then true else !decide ((↑(M.Gd.leN g x (fun i=>S z_1) m z_4 f (1:Nat)):Int)=(1:Int)))=true→false=true)∧((bif bif bif bif !decide ((0:Int)=(0:Int)) then true else !decide ((0:Int)=(0:Int)) then true else M.Gd.stA g x (S z_1) m z_4 f then true else !decide ((↑(M.Gd.pfN g x (S z_1) m z_4 f):Int)=(0:Int)) then true else !decide ((↑(M.Gd.leN g x (fun i=>S z_1) m z_4 f (1:Nat)):Int)=(1:Int)))=false→(0:Int)≤(0:Int)∧(0:Int)<(↑(M.Gd.leN g x (fun i=>S z_1) m z_4 f (1:Nat)):Int)∧z_0<M.Gd.leN g x (fun i=>S z_1) m z_4 f (1:Nat)∧((!!decide ((z_5 z_0).k=(S z_1).k))=true→(!!decide ((z_5 z_0).k=(S z_1).k))=true)∧((!!decide ((z_5 z_0).k=(S z_1).k))=true→(0:Int)≤(0:Int))∧((!!decide ((z_5 z_0).k=(S z_1).k))=true→(0:Int)<(↑(M.Gd.leN g x (fun i=>S z_1) m z_4 f (1:Nat)):Int))∧((!!decide ((z_5 z_0).k=(S z_1).k))=true→(!!decide ((z_5 z_0).k=(S z_1).k))=true)∧((!!decide ((z_5 z_0).k=(S z_1).k))=true→(!!decide ((z_5 z_0).k=(S z_1).k))=true)∧((!!decide ((z_5 z_0).k=(S z_1).k))=true→z_0<M.Gd.leN g x (fun i=>S z_1) m z_4 f (1:Nat))∧((!!decide ((z_5 z_0).k=(S z_1).k))=true→(!!decide ((z_5 z_0).k=(S z_1).k))=true)∧((!!decide ((z_5 z_0).k=(S z_1).k))=true→(!!decide ((z_5 z_0).k=(S z_1).k))=true)∧((!!decide ((z_5 z_0).k=(S z_1).k))=true→(!!decide ((z_5 z_0).k=(S z_1).k))=true)∧((!decide ((z_5 z_0).k=(S z_1).k))=false→(!!decide ((z_5 z_0).k=(S z_1).k))=true)∧((!bif !decide ((z_5 z_0).k=(S z_1).k) then true else !decide ((z_5 z_0).c=(S z_1).c))=true→(!bif !decide ((z_5 z_0).k=(S z_1).k) then true else !decide ((z_5 z_0).c=(S z_1).c))=true)∧((!bif !decide ((z_5 z_0).k=(S z_1).k) then true else !decide ((z_5 z_0).c=(S z_1).c))=true→(0:Int)≤(0:Int))∧((!bif !decide ((z_5 z_0).k=(S z_1).k) then true else !decide ((z_5 z_0).c=(S z_1).c))=true→(0:Int)<(↑(M.Gd.leN g x (fun i=>S z_1) m z_4 f (1:Nat)):Int))∧((!bif !decide ((z_5 z_0).k=(S z_1).k) then true else !decide ((z_5 z_0).c=(S z_1).c))=true→(!bif !decide ((z_5 z_0).k=(S z_1).k) then true else !decide ((z_5 z_0).c=(S z_1).c))=true)∧((!bif !decide ((z_5 z_0).k=(S z_1).k) then true else !decide ((z_5 z_0).c=(S z_1).c))=true→(!bif !decide ((z_5 z_0).k=(S z_1).k) then true else !decide ((z_5 z_0).c=(S z_1).c))=true)∧((!bif !decide ((z_5 z_0).k=(S z_1).k) then true else !decide ((z_5 z_0).c=(S z_1).c))=true→z_0<M.Gd.leN g x (fun i=>S z_1) m z_4 f (1:Nat))∧((!bif !decide ((z_5 z_0).k=(S z_1).k) then true else !decide ((z_5 z_0).c=(S z_1).c))=true→(!bif !decide ((z_5 z_0).k=(S z_1).k) then true else !decide ((z_5 z_0).c=(S z_1).c))=true)∧((!bif !decide ((z_5 z_0).k=(S z_1).k) then true else !decide ((z_5 z_0).c=(S z_1).c))=true→(!bif !decide ((z_5 z_0).k=(S z_1).k) then true else !decide ((z_5 z_0).c=(S z_1).c))=true)∧((!bif !decide ((z_5 z_0).k=(S z_1).k) then true else !decide ((z_5 z_0).c=(S z_1).c))=true→(!bif !decide ((z_5 z_0).k=(S z_1).k) then true else !decide ((z_5 z_0).c=(S z_1).c))=true)∧((bif !decide ((z_5 z_0).k=(S z_1).k) then true else !decide ((z_5 z_0).c=(S z_1).c))=false→(!bif !decide ((z_5 z_0).k=(S z_1).k) then true else !decide ((z_5 z_0).c=(S z_1).c))=true)∧((!bif bif !decide ((z_5 z_0).k=(S z_1).k) then true else !decide ((z_5 z_0).c=(S z_1).c) then true else !decide ((z_5 z_0).q=(S z_1).q))=true→(!bif bif !decide ((z_5 z_0).k=(S z_1).k) then true else !decide ((z_5 z_0).c=(S z_1).c) then true else !decide ((z_5 z_0).q=(S z_1).q))=true)∧((!bif bif !decide ((z_5 z_0).k=(S z_1).k) then true else !decide ((z_5 z_0).c=(S z_1).c) then true else !decide ((z_5 z_0).q=(S z_1).q))=true→(0:Int)≤(0:Int))∧((!bif bif !decide ((z_5 z_0).k=(S z_1).k) then true else !decide ((z_5 z_0).c=(S z_1).c) then true else !decide ((z_5 z_0).q=(S z_1).q))=true→(0:Int)<(↑(M.Gd.leN g x (fun i=>S z_1) m z_4 f (1:Nat)):Int))∧((!bif bif !decide ((z_5 z_0).k=(S z_1).k) then true else !decide ((z_5 z_0).c=(S z_1).c) then true else !decide ((z_5 z_0).q=(S z_1).q))=true→(!bif bif !decide ((z_5 z_0).k=(S z_1).k) then true else !decide ((z_5 z_0).c=(S z_1).c) then true else !decide ((z_5 z_0).q=(S z_1).q))=true)∧((!bif bif !decide ((z_5 z_0).k=(S z_1).k) then true else !decide ((z_5 z_0).c=(S z_1).c) then true else !decide ((z_5 z_0).q=(S z_1).q))=true→(!bif bif !decide ((z_5 z_0).k=(S z_1).k) then true else !decide ((z_5 z_0).c=(S z_1).c) then true else !decide ((z_5 z_0).q=(S z_1).q))=true)∧((!bif bif !decide ((z_5 z_0).k=(S z_1).k) then true else !decide ((z_5 z_0).c=(S z_1).c) then true else !decide ((z_5 z_0).q=(S z_1).q))=true→(!bif bif !decide ((z_5 z_0).k=(S z_1).k) then true else !decide ((z_5 z_0).c=(S z_1).c) then true else !decide ((z_5 z_0).q=(S z_1).q))=true)∧((!bif bif !decide ((z_5 z_0).k=(S z_1).k) then true else !decide ((z_5 z_0).c=(S z_1).c) then true else !decide ((z_5 z_0).q=(S z_1).q))=true→z_0<M.Gd.leN g x (fun i=>S z_1) m z_4 f (1:Nat))∧((!bif bif !decide ((z_5 z_0).k=(S z_1).k) then true else !decide ((z_5 z_0).c=(S z_1).c) then true else !decide ((z_5 z_0).q=(S z_1).q))=true→(!bif bif !decide ((z_5 z_0).k=(S z_1).k) then true else !decide ((z_5 z_0).c=(S z_1).c) then true else !decide ((z_5 z_0).q=(S z_1).q))=true)∧((!bif bif !decide ((z_5 z_0).k=(S z_1).k) then true else !decide ((z_5 z_0).c=(S z_1).c) then true else !decide ((z_5 z_0).q=(S z_1).q))=true→(!bif bif !decide ((z_5 z_0).k=(S z_1).k) then true else !decide ((z_5 z_0).c=(S z_1).c) then true else !decide ((z_5 z_0).q=(S z_1).q))=true)∧((bif bif !decide ((z_5 z_0).k=(S z_1).k) then true else !decide ((z_5 z_0).c=(S z_1).c) then true else !decide ((z_5 z_0).q=(S z_1).q))=false→(!bif bif !decide ((z_5 z_0).k=(S z_1).k) then true else !decide ((z_5 z_0).c=(S z_1).c) then true else !decide ((z_5 z_0).q=(S z_1).q))=true)∧((!bif bif bif !decide ((z_5 z_0).k=(S z_1).k) then true else !decide ((z_5 z_0).c=(S z_1).c) then true else !decide ((z_5 z_0).q=(S z_1).q) then true else decide (z_2<(z_5 z_0).a))=true→(!bif bif bif !decide ((z_5 z_0).k=(S z_1).k) then true else !decide ((z_5 z_0).c=(S z_1).c) then true else !decide ((z_5 z_0).q=(S z_1).q) then true else decide (z_2<(z_5 z_0).a))=true)∧((!bif bif bif !decide ((z_5 z_0).k=(S z_1).k) then true else !decide ((z_5 z_0).c=(S z_1).c) then true else !decide ((z_5 z_0).q=(S z_1).q) then true else decide (z_2<(z_5 z_0).a))=true→(0:Int)≤(0:Int))∧((!bif bif bif !decide ((z_5 z_0).k=(S z_1).k) then true else !decide ((z_5 z_0).c=(S z_1).c) then true else !decide ((z_5 z_0).q=(S z_1).q) then true else decide (z_2<(z_5 z_0).a))=true→(0:Int)<(↑(M.Gd.leN g x (fun i=>S z_1) m z_4 f (1:Nat)):Int))∧((!bif bif bif !decide ((z_5 z_0).k=(S z_1).k) then true else !decide ((z_5 z_0).c=(S z_1).c) then true else !decide ((z_5 z_0).q=(S z_1).q) then true else decide (z_2<(z_5 z_0).a))=true→(!bif bif bif !decide ((z_5 z_0).k=(S z_1).k) then true else !decide ((z_5 z_0).c=(S z_1).c) then true else !decide ((z_5 z_0).q=(S z_1).q) then true else decide (z_2<(z_5 z_0).a))=true)∧((!bif bif bif !decide ((z_5 z_0).k=(S z_1).k) then true else !decide ((z_5 z_0).c=(S z_1).c) then true else !decide ((z_5 z_0).q=(S z_1).q) then true else decide (z_2<(z_5 z_0).a))=true→(!bif bif bif !decide ((z_5 z_0).k=(S z_1).k) then true else !decide ((z_5 z_0).c=(S z_1).c) then true else !decide ((z_5 z_0).q=(S z_1).q) then true else decide (z_2<(z_5 z_0).a))=true)∧((!bif bif bif !decide ((z_5 z_0).k=(S z_1).k) then true else !decide ((z_5 z_0).c=(S z_1).c) then true else !decide ((z_5 z_0).q=(S z_1).q) then true else decide (z_2<(z_5 z_0).a))=true→(!bif bif bif !decide ((z_5 z_0).k=(S z_1).k) then true else !decide ((z_5 z_0).c=(S z_1).c) then true else !decide ((z_5 z_0).q=(S z_1).q) then true else decide (z_2<(z_5 z_0).a))=true)∧((!bif bif bif !decide ((z_5 z_0).k=(S z_1).k) then true else !decide ((z_5 z_0).c=(S z_1).c) then true else !decide ((z_5 z_0).q=(S z_1).q) then true else decide (z_2<(z_5 z_0).a))=true→z_0<M.Gd.leN g x (fun i=>S z_1) m z_4 f (1:Nat))∧((!bif bif bif !decide ((z_5 z_0).k=(S z_1).k) then true else !decide ((z_5 z_0).c=(S z_1).c) then true else !decide ((z_5 z_0).q=(S z_1).q) then true else decide (z_2<(z_5 z_0).a))=true→(!bif bif bif !decide ((z_5 z_0).k=(S z_1).k) then true else !decide ((z_5 z_0).c=(S z_1).c) then true else !decide ((z_5 z_0).q=(S z_1).q) then true else decide (z_2<(z_5 z_0).a))=true)∧((!bif bif bif !decide ((z_5 z_0).k=(S z_1).k) then true else !decide ((z_5 z_0).c=(S z_1).c) then true else !decide ((z_5 z_0).q=(S z_1).q) then true else decide (z_2<(z_5 z_0).a))=true→(!bif bif bif !decide ((z_5 z_0).k=(S z_1).k) then true else !decide ((z_5 z_0).c=(S z_1).c) then true else !decide ((z_5 z_0).q=(S z_1).q) then true else decide (z_2<(z_5 z_0).a))=true)∧((bif bif bif !decide ((z_5 z_0).k=(S z_1).k) then true else !decide ((z_5 z_0).c=(S z_1).c) then true else !decide ((z_5 z_0).q=(S z_1).q) then true else decide (z_2<(z_5 z_0).a))=false→(!bif bif bif !decide ((z_5 z_0).k=(S z_1).k) then true else !decide ((z_5 z_0).c=(S z_1).c) then true else !decide ((z_5 z_0).q=(S z_1).q) then true else decide (z_2<(z_5 z_0).a))=true)∧((!bif bif bif bif !decide ((z_5 z_0).k=(S z_1).k) then true else !decide ((z_5 z_0).c=(S z_1).c) then true else !decide ((z_5 z_0).q=(S z_1).q) then true else decide (z_2<(z_5 z_0).a) then true else decide ((z_5 z_0).b<z_2))=true→(!bif bif bif bif !decide ((z_5 z_0).k=(S z_1).k) then true else !decide ((z_5 z_0).c=(S z_1).c) then true else !decide ((z_5 z_0).q=(S z_1).q) then true else decide (z_2<(z_5 z_0).a) then true else decide ((z_5 z_0).b<z_2))=true)∧((!bif bif bif bif !decide ((z_5 z_0).k=(S z_1).k) then true else !decide ((z_5 z_0).c=(S z_1).c) then true else !decide ((z_5 z_0).q=(S z_1).q) then true else decide (z_2<(z_5 z_0).a) then true else decide ((z_5 z_0).b<z_2))=true→(0:Int)≤(0:Int))∧((!bif bif bif bif !decide ((z_5 z_0).k=(S z_1).k) then true else !decide ((z_5 z_0).c=(S z_1).c) then true else !decide ((z_5 z_0).q=(S z_1).q) then true else decide (z_2<(z_5 z_0).a) then true else decide ((z_5 z_0).b<z_2))=true→(0:Int)<(↑(M.Gd.leN g x (fun i=>S z_1) m z_4 f (1:Nat)):Int))∧((!bif bif bif bif !decide ((z_5 z_0).k=(S z_1).k) then true else !decide ((z_5 z_0).c=(S z_1).c) then true else !decide ((z_5 z_0).q=(S z_1).q) then true else decide (z_2<(z_5 z_0).a) then true else decide ((z_5 z_0).b<z_2))=true→(!bif bif bif bif !decide ((z_5 z_0).k=(S z_1).k) then true else !decide ((z_5 z_0).c=(S z_1).c) then true else !decide ((z_5 z_0).q=(S z_1).q) then true else decide (z_2<(z_5 z_0).a) then true else decide ((z_5 z_0).b<z_2))=true)∧((!bif bif bif bif !decide ((z_5 z_0).k=(S z_1).k) then true else !decide ((z_5 z_0).c=(S z_1).c) then true else !decide ((z_5 z_0).q=(S z_1).q) then true else decide (z_2<(z_5 z_0).a) then true else decide ((z_5 z_0).b<z_2))=true→(!bif bif bif bif !decide ((z_5 z_0).k=(S z_1).k) then true else !decide ((z_5 z_0).c=(S z_1).c) then true else !decide ((z_5 z_0).q=(S z_1).q) then true else decide (z_2<(z_5 z_0).a) then true else decide ((z_5 z_0).b<z_2))=true)∧((!bif bif bif bif !decide ((z_5 z_0).k=(S z_1).k) then true else !decide ((z_5 z_0).c=(S z_1).c) then true else !decide ((z_5 z_0).q=(S z_1).q) then true else decide (z_2<(z_5 z_0).a) then true else decide ((z_5 z_0).b<z_2))=true→(!bif bif bif bif !decide ((z_5 z_0).k=(S z_1).k) then true else !decide ((z_5 z_0).c=(S z_1).c) then true else !decide ((z_5 z_0).q=(S z_1).q) then true else decide (z_2<(z_5 z_0).a) then true else decide ((z_5 z_0).b<z_2))=true)∧((!bif bif bif bif !decide ((z_5 z_0).k=(S z_1).k) then true else !decide ((z_5 z_0).c=(S z_1).c) then true else !decide ((z_5 z_0).q=(S z_1).q) then true else decide (z_2<(z_5 z_0).a) then true else decide ((z_5 z_0).b<z_2))=true→z_0<M.Gd.leN g x (fun i=>S z_1) m z_4 f (1:Nat))∧((!bif bif bif bif !decide ((z_5 z_0).k=(S z_1).k) then true else !decide ((z_5 z_0).c=(S z_1).c) then true else !decide ((z_5 z_0).q=(S z_1).q) then true else decide (z_2<(z_5 z_0).a) then true else decide ((z_5 z_0).b<z_2))=true→(!bif bif bif bif !decide ((z_5 z_0).k=(S z_1).k) then true else !decide ((z_5 z_0).c=(S z_1).c) then true else !decide ((z_5 z_0).q=(S z_1).q) then true else decide (z_2<(z_5 z_0).a) then true else decide ((z_5 z_0).b<z_2))=true)∧((!bif bif bif bif !decide ((z_5 z_0).k=(S z_1).k) then true else !decide ((z_5 z_0).c=(S z_1).c) then true else !decide ((z_5 z_0).q=(S z_1).q) then true else decide (z_2<(z_5 z_0).a) then true else decide ((z_5 z_0).b<z_2))=true→(!bif bif bif bif !decide ((z_5 z_0).k=(S z_1).k) then true else !decide ((z_5 z_0).c=(S z_1).c) then true else !decide ((z_5 z_0).q=(S z_1).q) then true else decide (z_2<(z_5 z_0).a) then true else decide ((z_5 z_0).b<z_2))=true)∧((!bif bif bif bif !decide ((z_5 z_0).k=(S z_1).k) then true else !decide ((z_5 z_0).c=(S z_1).c) then true else !decide ((z_5 z_0).q=(S z_1).q) then true else decide (z_2<(z_5 z_0).a) then true else decide ((z_5 z_0).b<z_2))=true→(!bif bif bif bif !decide ((z_5 z_0).k=(S z_1).k) then true else !decide ((z_5 z_0).c=(S z_1).c) then true else !decide ((z_5 z_0).q=(S z_1).q) then true else decide (z_2<(z_5 z_0).a) then true else decide ((z_5 z_0).b<z_2))=true)∧((!bif bif bif bif !decide ((z_5 z_0).k=(S z_1).k) then true else !decide ((z_5 z_0).c=(S z_1).c) then true else !decide ((z_5 z_0).q=(S z_1).q) then true else decide (z_2<(z_5 z_0).a) then true else decide ((z_5 z_0).b<z_2))=true→(!bif bif bif bif !decide ((z_5 z_0).k=(S z_1).k) then true else !decide ((z_5 z_0).c=(S z_1).c) then true else !decide ((z_5 z_0).q=(S z_1).q) then true else decide (z_2<(z_5 z_0).a) then true else decide ((z_5 z_0).b<z_2))=true)∧((bif bif bif bif !decide ((z_5 z_0).k=(S z_1).k) then true else !decide ((z_5 z_0).c=(S z_1).c) then true else !decide ((z_5 z_0).q=(S z_1).q) then true else decide (z_2<(z_5 z_0).a) then true else decide ((z_5 z_0).b<z_2))=false→(!bif bif bif bif !decide ((z_5 z_0).k=(S z_1).k) then true else !decide ((z_5 z_0).c=(S z_1).c) then true else !decide ((z_5 z_0).q=(S z_1).q) then true else decide (z_2<(z_5 z_0).a) then true else decide ((z_5 z_0).b<z_2))=true)∧((!bif bif bif bif bif !decide ((z_5 z_0).k=(S z_1).k) then true else !decide ((z_5 z_0).c=(S z_1).c) then true else !decide ((z_5 z_0).q=(S z_1).q) then true else decide (z_2<(z_5 z_0).a) then true else decide ((z_5 z_0).b<z_2) then true else decide ((z_5 z_0).a<(S z_1).a))=true→(!bif bif bif bif bif !decide ((z_5 z_0).k=(S z_1).k) then true else !decide ((z_5 z_0).c=(S z_1).c) then true else !decide ((z_5 z_0).q=(S z_1).q) then true else decide (z_2<(z_5 z_0).a) then true else decide ((z_5 z_0).b<z_2) then true else decide ((z_5 z_0).a<(S z_1).a))=true)∧((!bif bif bif bif bif !decide ((z_5 z_0).k=(S z_1).k) then true else !decide ((z_5 z_0).c=(S z_1).c) then true else !decide ((z_5 z_0).q=(S z_1).q) then true else decide (z_2<(z_5 z_0).a) then true else decide ((z_5 z_0).b<z_2) then true else decide ((z_5 z_0).a<(S z_1).a))=true→(0:Int)≤(0:Int))∧((!bif bif bif bif bif !decide ((z_5 z_0).k=(S z_1).k) then true else !decide ((z_5 z_0).c=(S z_1).c) then true else !decide ((z_5 z_0).q=(S z_1).q) then true else decide (z_2<(z_5 z_0).a) then true else decide ((z_5 z_0).b<z_2) then true else decide ((z_5 z_0).a<(S z_1).a))=true→(0:Int)<(↑(M.Gd.leN g x (fun i=>S z_1) m z_4 f (1:Nat)):Int))∧((!bif bif bif bif bif !decide ((z_5 z_0).k=(S z_1).k) then true else !decide ((z_5 z_0).c=(S z_1).c) then true else !decide ((z_5 z_0).q=(S z_1).q) then true else decide (z_2<(z_5 z_0).a) then true else decide ((z_5 z_0).b<z_2) then true else decide ((z_5 z_0).a<(S z_1).a))=true→(!bif bif bif bif bif !decide ((z_5 z_0).k=(S z_1).k) then true else !decide ((z_5 z_0).c=(S z_1).c) then true else !decide ((z_5 z_0).q=(S z_1).q) then true else decide (z_2<(z_5 z_0).a) then true else decide ((z_5 z_0).b<z_2) then true else decide ((z_5 z_0).a<(S z_1).a))=true)∧((!bif bif bif bif bif !decide ((z_5 z_0).k=(S z_1).k) then true else !decide ((z_5 z_0).c=(S z_1).c) then true else !decide ((z_5 z_0).q=(S z_1).q) then true else decide (z_2<(z_5 z_0).a) then true else decide ((z_5 z_0).b<z_2) then true else decide ((z_5 z_0).a<(S z_1).a))=true→(!bif bif bif bif bif !decide ((z_5 z_0).k=(S z_1).k) then true else !decide ((z_5 z_0).c=(S z_1).c) then true else !decide ((z_5 z_0).q=(S z_1).q) then true else decide (z_2<(z_5 z_0).a) then true else decide ((z_5 z_0).b<z_2) then true else decide ((z_5 z_0).a<(S z_1).a))=true)∧((!bif bif bif bif bif !decide ((z_5 z_0).k=(S z_1).k) then true else !decide ((z_5 z_0).c=(S z_1).c) then true else !decide ((z_5 z_0).q=(S z_1).q) then true else decide (z_2<(z_5 z_0).a) then true else decide ((z_5 z_0).b<z_2) then true else decide ((z_5 z_0).a<(S z_1).a))=true→(!bif bif bif bif bif !decide ((z_5 z_0).k=(S z_1).k) then true else !decide ((z_5 z_0).c=(S z_1).c) then true else !decide ((z_5 z_0).q=(S z_1).q) then true else decide (z_2<(z_5 z_0).a) then true else decide ((z_5 z_0).b<z_2) then true else decide ((z_5 z_0).a<(S z_1).a))=true)∧((!bif bif bif bif bif !decide ((z_5 z_0).k=(S z_1).k) then true else !decide ((z_5 z_0).c=(S z_1).c) then true else !decide ((z_5 z_0).q=(S z_1).q) then true else decide (z_2<(z_5 z_0).a) then true else decide ((z_5 z_0).b<z_2) then true else decide ((z_5 z_0).a<(S z_1).a))=true→z_0<M.Gd.leN g x (fun i=>S z_1) m z_4 f (1:Nat))∧((!bif bif bif bif bif !decide ((z_5 z_0).k=(S z_1).k) then true else !decide ((z_5 z_0).c=(S z_1).c) then true else !decide ((z_5 z_0).q=(S z_1).q) then true else decide (z_2<(z_5 z_0).a) then true else decide ((z_5 z_0).b<z_2) then true else decide ((z_5 z_0).a<(S z_1).a))=true→(!bif bif bif bif bif !decide ((z_5 z_0).k=(S z_1).k) then true else !decide ((z_5 z_0).c=(S z_1).c) then true else !decide ((z_5 z_0).q=(S z_1).q) then true else decide (z_2<(z_5 z_0).a) then true else decide ((z_5 z_0).b<z_2) then true else decide ((z_5 z_0).a<(S z_1).a))=true)∧((!bif bif bif bif bif !decide ((z_5 z_0).k=(S z_1).k) then true else !decide ((z_5 z_0).c=(S z_1).c) then true else !decide ((z_5 z_0).q=(S z_1).q) then true else decide (z_2<(z_5 z_0).a) then true else decide ((z_5 z_0).b<z_2) then true else decide ((z_5 z_0).a<(S z_1).a))=true→(!bif bif bif bif bif !decide ((z_5 z_0).k=(S z_1).k) then true else !decide ((z_5 z_0).c=(S z_1).c) then true else !decide ((z_5 z_0).q=(S z_1).q) then true else decide (z_2<(z_5 z_0).a) then true else decide ((z_5 z_0).b<z_2) then true else decide ((z_5 z_0).a<(S z_1).a))=true)∧((!bif bif bif bif bif !decide ((z_5 z_0).k=(S z_1).k) then true else !decide ((z_5 z_0).c=(S z_1).c) then true else !decide ((z_5 z_0).q=(S z_1).q) then true else decide (z_2<(z_5 z_0).a) then true else decide ((z_5 z_0).b<z_2) then true else decide ((z_5 z_0).a<(S z_1).a))=true→(!bif bif bif bif bif !decide ((z_5 z_0).k=(S z_1).k) then true else !decide ((z_5 z_0).c=(S z_1).c) then true else !decide ((z_5 z_0).q=(S z_1).q) then true else decide (z_2<(z_5 z_0).a) then true else decide ((z_5 z_0).b<z_2) then true else decide ((z_5 z_0).a<(S z_1).a))=true)∧((!bif bif bif bif bif !decide ((z_5 z_0).k=(S z_1).k) then true else !decide ((z_5 z_0).c=(S z_1).c) then true else !decide ((z_5 z_0).q=(S z_1).q) then true else decide (z_2<(z_5 z_0).a) then true else decide ((z_5 z_0).b<z_2) then true else decide ((z_5 z_0).a<(S z_1).a))=true→(!bif bif bif bif bif !decide ((z_5 z_0).k=(S z_1).k) then true else !decide ((z_5 z_0).c=(S z_1).c) then true else !decide ((z_5 z_0).q=(S z_1).q) then true else decide (z_2<(z_5 z_0).a) then true else decide ((z_5 z_0).b<z_2) then true else decide ((z_5 z_0).a<(S z_1).a))=true)∧((bif bif bif bif bif !decide ((z_5 z_0).k=(S z_1).k) then true else !decide ((z_5 z_0).c=(S z_1).c) then true else !decide ((z_5 z_0).q=(S z_1).q) then true else decide (z_2<(z_5 z_0).a) then true else decide ((z_5 z_0).b<z_2) then true else decide ((z_5 z_0).a<(S z_1).a))=false→(!bif bif bif bif bif !decide ((z_5 z_0).k=(S z_1).k) then true else !decide ((z_5 z_0).c=(S z_1).c) then true else !decide ((z_5 z_0).q=(S z_1).q) then true else decide (z_2<(z_5 z_0).a) then true else decide ((z_5 z_0).b<z_2) then true else decide ((z_5 z_0).a<(S z_1).a))=true)∧((bif bif bif bif bif bif !decide ((z_5 z_0).k=(S z_1).k) then true else !decide ((z_5 z_0).c=(S z_1).c) then true else !decide ((z_5 z_0).q=(S z_1).q) then true else decide (z_2<(z_5 z_0).a) then true else decide ((z_5 z_0).b<z_2) then true else decide ((z_5 z_0).a<(S z_1).a) then true else decide ((S z_1).b<(z_5 z_0).b))=true→false=true)∧((bif bif bif bif bif bif !decide ((z_5 z_0).k=(S z_1).k) then true else !decide ((z_5 z_0).c=(S z_1).c) then true else !decide ((z_5 z_0).q=(S z_1).q) then true else decide (z_2<(z_5 z_0).a) then true else decide ((z_5 z_0).b<z_2) then true else decide ((z_5 z_0).a<(S z_1).a) then true else decide ((S z_1).b<(z_5 z_0).b))=false→((0:Nat)≤m∧m≤(70:Nat))∧((m=m∧∀ (k:Nat),k<m→(z_4 k).k=(z_4 k).k∧(z_4 k).s=(z_4 k).s∧(z_4 k).t0=(z_4 k).t0∧(z_4 k).t1=(z_4 k).t1∧(z_4 k).l0=(z_4 k).l0∧(z_4 k).l1=(z_4 k).l1)∧(0:Nat)=(0:Nat)∧(0:Int)=(↑(0:Nat):Int)∧g.w=g.w∧g.h=g.h∧g.s=g.s∧g.v0=g.v0∧g.v1=g.v1∧g.d0=g.d0∧g.d1=g.d1∧g.r=g.r∧(ns=ns∧∀ (k:Nat),k<ns→x k=x k)∧(n=n∧∀ (k:Nat),k<n→(S k).k=(S k).k∧(S k).c=(S k).c∧(S k).q=(S k).q∧(S k).a=(S k).a∧(S k).b=(S k).b)∧(m=m∧∀ (k:Nat),k<m→(P k).k=(P k).k∧(P k).s=(P k).s∧(P k).t0=(P k).t0∧(P k).t1=(P k).t1∧(P k).l0=(P k).l0∧(P k).l1=(P k).l1)∧f=f∧(S z_1).k=(S z_1).k∧(S z_1).c=(S z_1).c∧(S z_1).q=(S z_1).q∧(S z_1).a=(S z_1).a∧(S z_1).b=(S z_1).b∧(0:Nat)=(0:Nat)∧True)∧(false=false→(0:Nat)+m≤m∧(∀ (k:Nat),k<ns→x k=x k)∧(∀ (k:Nat),k<m→(z_4 k).k=(z_4 k).k∧(z_4 k).s=(z_4 k).s∧(z_4 k).t0=(z_4 k).t0∧(z_4 k).t1=(z_4 k).t1∧(z_4 k).l0=(z_4 k).l0∧(z_4 k).l1=(z_4 k).l1)∧(∀ (k:Nat),k<m→(↑((0:Nat)+k):Int)=(↑((0:Nat)+k):Int))∧ns≤(100000:Nat)∧m≤(100000:Nat)∧m≤(100000:Nat)∧(decide ((M.Gd.veE g ns x (S z_1) m z_4 f m fun k=>(↑((0:Nat)+k):Int))=(22:Int))=true→decide ((M.Gd.veE g ns x (S z_1) m z_4 f m fun k=>(↑((0:Nat)+k):Int))=(22:Int))=true)∧(bif decide ((M.Gd.veE g ns x (S z_1) m z_4 f m fun k=>(↑((0:Nat)+k):Int))=(22:Int)) then true else false)=true)∧(false=true→False))))))
theorem r10c (g:M.Gd) (ns:Nat) (x:Nat→Int) (n:Nat) (S:Nat→M.Sc) (m:Nat) (P:Nat→M.Pk) (f:Int) (ix tm:Int) (n1:Nat) (l1:Nat→Int) (n2:Nat) (l2:Nat→Int) (n3:Nat) (l3:Nat→Int) (n4:Nat) (l4:Nat→Int) (fl:Int):V true eqs [(17,pureE e17),(18,pureE e18t),(22,pureE e22t),(30,pureE e30t),(33,pureE e33s),(37,pureE e37s)] Try.f10 [0,1,2,3,4,6,7,8,9,10,11,12,13,14,15,16,29,44,55,101,166,170] [(0,loopT false Try.f10.ntmps 0 (lp10 g ns x n S m P f (S (Int.tmod ix n).toNat) ix tm n1 l1 n2 l2 n3 l3 n4 l4 fl) (fun _ _ _=>(0:Nat)))] [.agg [SI (M.Gd.w g),SI (M.Gd.h g),SI (M.Gd.s g),SI (M.Gd.v0 g),SI (M.Gd.v1 g),SI (M.Gd.d0 g),SI (M.Gd.d1 g),SI (M.Gd.r g),.sl 1 ns (fun k=>[SI (x k)]),.sl 5 n (fun k=>[SI (M.Sc.k (S k)),SI (M.Sc.c (S k)),SI (M.Sc.q (S k)),SI (M.Sc.a (S k)),SI (M.Sc.b (S k))]),.sl 6 m (fun k=>[SI (M.Pk.k (P k)),SI (M.Pk.s (P k)),SI (M.Pk.t0 (P k)),SI (M.Pk.t1 (P k)),SI (M.Pk.l0 (P k)),SI (M.Pk.l1 (P k))]),SI f],.agg [.int .u8 ix,.int .u32 tm,.sl 1 n1 (fun k=>[.int .u32 (l1 k)]),.sl 1 n2 (fun k=>[.int .u32 (l2 k)]),.sl 1 n3 (fun k=>[.int .u16 (l3 k)]),.sl 1 n4 (fun k=>[.int .u16 (l4 k)]),.int .u64 fl]] (.bool true)=Rr10c g ns x n S m P f ix tm n1 l1 n2 l2 n3 l3 n4 l4 fl:=by kernel_rfl
theorem br10c (g:M.Gd) (ns:Nat) (x:Nat→Int) (n:Nat) (S:Nat→M.Sc) (m:Nat) (P:Nat→M.Pk) (f:Int) (ix tm:Int) (n1:Nat) (l1:Nat→Int) (n2:Nat) (l2:Nat→Int) (n3:Nat) (l3:Nat→Int) (n4:Nat) (l4:Nat→Int) (fl:Int) (hp:(M.Gd.rnB g ns x n S m P f=true)∧(0≤ix)∧(ix<256)∧(0≤tm)∧(tm<4294967296)∧(M.Tr.ok (M.Tr.mk n1 l1 n2 l2 n3 l3 n4 l4 fl))∧(∀ k,k<n3→0≤l3 k∧l3 k≤65535)∧(∀ k,k<n4→0≤l4 k∧l4 k≤65535)∧((n≠0∧(S (Int.tmod ix n).toNat).k=1∧M.Gd.tdA g x (S (Int.tmod ix n).toNat) (M.Tr.mk n1 l1 n2 l2 n3 l3 n4 l4 fl) (M.into (M.Sc.a (S (Int.tmod ix n).toNat)) (M.Sc.b (S (Int.tmod ix n).toNat)) tm) f m P=true))∧AllP []):Rr10c g ns x n S m P f ix tm n1 l1 n2 l2 n3 l3 n4 l4 fl:=by
 delta Rr10c
 obtain ⟨hB,i1,i2,u1,u2,hz,h3,h4,⟨c0,hk,hA⟩,-⟩:=id hp
 obtain ⟨⟨m1,m2,m3,m4⟩,hC⟩:=M.rnB_ok.1 hB
 intro z0 z1 z2 z3 z4 z5
 clear_value (g5:z5=_) (g4:z4=_) (g3:z3=_) (g2:z2=_) (g1:z1=_) (g0:z0=_)
 have y1:=Int.tmod_nonneg (n:Int) i1
 have y2:=Int.tmod_lt_of_pos ix (show 0<(n:Int) by omega)
 have ha:z1<n:=by omega
 have r1:R64 ix:=by unfold R64; omega
 rw [← g1] at hk hA
 rw [← g2,← g3] at hA
 rw [← g3] at hz
 have hk1:M.Gd.ck1 g ns x (S z1) m P f=0:=by
  obtain ⟨k1,k2,k3,⟨k4,k5⟩,k6,k7,k8⟩:=hC
  exact M.Gd.ckE_ok.2 ⟨k1,k2,k3,⟨by omega,fun _ _=>k5 z1 ha⟩,k6,k7,k8⟩
 have hs:=(M.Gd.ck1_ok hk1).2.2.2.1.2.2.2
 have hin:=M.into_in (u:=tm) hs.2.1 u1
 rw [← g2] at hin
 have hO:∀ i,i<m→M.Gd.tdO g x (S z1) z3 z2 f P i=true:=M.alF_all.1 hA
 obtain ⟨q1,q2,va,vb,q3,q4,q5,q6,q7⟩:=M.Gd.truth (g:=g) (z:=z3) (t:=z2) hk1 hz hk hin.1 hin.2 hO
 rw [← g4] at q1 q2 q3
 rw [← g5] at q3
 have q1':M.Gd.ckE g ns x 1 (fun i=>S z1) m z4 f=0:=q1
 have e1:=M.Gd.ve_all q1
 have e2:=@M.Gd.le_one g x (S z1) f m z4
 have e3:M.Gd.pfN g x (S z1) m z4 f=0:=by unfold M.Gd.pfN; rw [q2]; rfl
 rw [q2] at e1 e2
 have e0:z0=0:=g0
 subst e0
 simp only [hB,r1,hk,hk1,hA,q1,q1',q2,e1,e2,e3]
 simp [hz,u1,u2,c0,q3]
 exact ⟨y1,y2,ha,h3,h4,by omega,by omega,by omega,by omega,⟨⟨⟨⟨hk,q5⟩,q6⟩,q4⟩,q7⟩,fun _ _ _ _ _=>⟨by omega,by omega,by omega,by simpa using e1⟩⟩
theorem s10c:PureOK PP 10 e10c:=by
 intro xs ps res h hp
 unfold e10c at h
 split at h
 ·rename_i g_w g_h g_s g_v0 g_v1 g_d0 g_d1 g_r ns g_1 n g_2 m g_3 f ix tm n1 g_4 n2 g_5 n3 g_6 n4 g_7 fl
  cases h
  simp only [AllP.cons] at hp
  obtain ⟨Hg_1,Hg_2,Hg_3,hp⟩:=hp
  obtain ⟨Hg_4,Hg_5,hp⟩:=hp
  obtain ⟨Hg_6,Hg_7,hp⟩:=hp
  exact Spec.args (enterH (Hold.of (r10c (M.Gd.mk g_w g_h g_s g_v0 g_v1 g_d0 g_d1 g_r) ns (cI g_1 0) n (fun i=>M.Sc.mk (cI g_2 0 i) (cI g_2 1 i) (cI g_2 2 i) (cI g_2 3 i) (cI g_2 4 i)) m (fun i=>M.Pk.mk (cI g_3 0 i) (cI g_3 1 i) (cI g_3 2 i) (cI g_3 3 i) (cI g_3 4 i) (cI g_3 5 i)) f ix tm n1 (cI g_4 0) n2 (cI g_5 0) n3 (cI g_6 0) n4 (cI g_7 0) fl) (br10c (M.Gd.mk g_w g_h g_s g_v0 g_v1 g_d0 g_d1 g_r) ns (cI g_1 0) n (fun i=>M.Sc.mk (cI g_2 0 i) (cI g_2 1 i) (cI g_2 2 i) (cI g_2 3 i) (cI g_2 4 i)) m (fun i=>M.Pk.mk (cI g_3 0 i) (cI g_3 1 i) (cI g_3 2 i) (cI g_3 3 i) (cI g_3 4 i) (cI g_3 5 i)) f ix tm n1 (cI g_4 0) n2 (cI g_5 0) n3 (cI g_6 0) n4 (cI g_7 0) fl hp)) (eqsok) (.cons (pureE_ok s17) (.cons (pureE_ok s18t) (.cons (pureE_ok s22t) (.cons (pureE_ok s30t) (.cons (pureE_ok s33s) (.cons (pureE_ok s37s) (.nil))))))) (k:=10) (by kernel_rfl) (by kernel_rfl) (fun Y=>.cons (by kernel_rfl) (t10 (M.Gd.mk g_w g_h g_s g_v0 g_v1 g_d0 g_d1 g_r) ns (cI g_1 0) n (fun i=>M.Sc.mk (cI g_2 0 i) (cI g_2 1 i) (cI g_2 2 i) (cI g_2 3 i) (cI g_2 4 i)) m (fun i=>M.Pk.mk (cI g_3 0 i) (cI g_3 1 i) (cI g_3 2 i) (cI g_3 3 i) (cI g_3 4 i) (cI g_3 5 i)) f ((fun i=>M.Sc.mk (cI g_2 0 i) (cI g_2 1 i) (cI g_2 2 i) (cI g_2 3 i) (cI g_2 4 i)) (Int.tmod ix n).toNat) ix tm n1 (cI g_4 0) n2 (cI g_5 0) n3 (cI g_6 0) n4 (cI g_7 0) fl FOK.wide Y) (.nil))) (.cons (.agg (.cons (.refl _) (.cons (.refl _) (.cons (.refl _) (.cons (.refl _) (.cons (.refl _) (.cons (.refl _) (.cons (.refl _) (.cons (.refl _) (.cons (.row Hg_1 fun _=>rfl) (.cons (.row Hg_2 fun _=>rfl) (.cons (.row Hg_3 fun _=>rfl) (.cons (.refl _) .nil))))))))))))) (.cons (.agg (.cons (.refl _) (.cons (.refl _) (.cons (.rowK Hg_4 fun _=>rfl) (.cons (.rowK Hg_5 fun _=>rfl) (.cons (.rowK Hg_6 fun _=>rfl) (.cons (.rowK Hg_7 fun _=>rfl) (.cons (.refl _) .nil)))))))) .nil))
 ·cases h
theorem s10 {w h s v0 v1 d0 d1 r:Int} {ns n m n1 n2 n3 n4:Nat} {f ix tm fl:Int} {G1 G2 G3 L1 L2 L3 L4:Nat→List SV} (H1:Row 1 ns G1) (H2:Row 5 n G2) (H3:Row 6 m G3) (J1:RowK .u32 1 n1 L1) (J2:RowK .u32 1 n2 L2) (J3:RowK .u16 1 n3 L3) (J4:RowK .u16 1 n4 L4) (hi:0≤ix∧ix<256) (ht:0≤tm∧tm<4294967296)
  (B1:∀ k,k<n1→0≤cI L1 0 k∧cI L1 0 k≤4294967295) (B2:∀ k,k<n2→0≤cI L2 0 k∧cI L2 0 k≤4294967295) (B3:∀ k,k<n3→0≤cI L3 0 k∧cI L3 0 k≤65535) (B4:∀ k,k<n4→0≤cI L4 0 k∧cI L4 0 k≤65535) :
  Pure PP 10 (SV.denL [.agg [.int .i64 w,.int .i64 h,.int .i64 s,.int .i64 v0,.int .i64 v1,.int .i64 d0,.int .i64 d1,.int .i64 r,.sl 1 ns G1,.sl 5 n G2,.sl 6 m G3,.int .i64 f],.agg [.int .u8 ix,.int .u32 tm,.sl 1 n1 L1,.sl 1 n2 L2,.sl 1 n3 L3,.sl 1 n4 L4,.int .u64 fl]]) (SV.bool true).den:=by
 have hz:M.Tr.ok (M.Tr.mk n1 (cI L1 0) n2 (cI L2 0) n3 (cI L3 0) n4 (cI L4 0) fl):=fun i=>⟨M.num_in (by omega) B1,M.num_in (by omega) B2,M.num_in (by omega) B3,M.num_in (by omega) B4⟩
 cases hB:M.Gd.rnB (M.Gd.mk w h s v0 v1 d0 d1 r) ns (cI G1 0) n (fun i=>M.Sc.mk (cI G2 0 i) (cI G2 1 i) (cI G2 2 i) (cI G2 3 i) (cI G2 4 i)) m (fun i=>M.Pk.mk (cI G3 0 i) (cI G3 1 i) (cI G3 2 i) (cI G3 3 i) (cI G3 4 i) (cI G3 5 i)) f with
 | false=>exact s10a _ _ _ rfl (AllP.cons.2 ⟨H1,AllP.cons.2 ⟨H2,AllP.cons.2 ⟨H3,AllP.cons.2 ⟨J1,AllP.cons.2 ⟨J2,AllP.cons.2 ⟨J3,AllP.cons.2 ⟨J4,AllP.cons.2 ⟨hB,AllP.nil⟩⟩⟩⟩⟩⟩⟩⟩)
 | true =>
  by_cases hO:(n≠0∧((fun i=>M.Sc.mk (cI G2 0 i) (cI G2 1 i) (cI G2 2 i) (cI G2 3 i) (cI G2 4 i)) (Int.tmod ix n).toNat).k=1∧M.Gd.tdA (M.Gd.mk w h s v0 v1 d0 d1 r) (cI G1 0) ((fun i=>M.Sc.mk (cI G2 0 i) (cI G2 1 i) (cI G2 2 i) (cI G2 3 i) (cI G2 4 i)) (Int.tmod ix n).toNat) (M.Tr.mk n1 (cI L1 0) n2 (cI L2 0) n3 (cI L3 0) n4 (cI L4 0) fl) (M.into ((fun i=>M.Sc.mk (cI G2 0 i) (cI G2 1 i) (cI G2 2 i) (cI G2 3 i) (cI G2 4 i)) (Int.tmod ix n).toNat).a ((fun i=>M.Sc.mk (cI G2 0 i) (cI G2 1 i) (cI G2 2 i) (cI G2 3 i) (cI G2 4 i)) (Int.tmod ix n).toNat).b tm) f m (fun i=>M.Pk.mk (cI G3 0 i) (cI G3 1 i) (cI G3 2 i) (cI G3 3 i) (cI G3 4 i) (cI G3 5 i))=true)
  ·exact s10c _ _ _ rfl (AllP.cons.2 ⟨H1,AllP.cons.2 ⟨H2,AllP.cons.2 ⟨H3,AllP.cons.2 ⟨J1,AllP.cons.2 ⟨J2,AllP.cons.2 ⟨J3,AllP.cons.2 ⟨J4,AllP.cons.2 ⟨hB,AllP.cons.2 ⟨hi.1,AllP.cons.2 ⟨hi.2,AllP.cons.2 ⟨ht.1,AllP.cons.2 ⟨ht.2,AllP.cons.2 ⟨hz,AllP.cons.2 ⟨B3,AllP.cons.2 ⟨B4,AllP.cons.2 ⟨hO,AllP.nil⟩⟩⟩⟩⟩⟩⟩⟩⟩⟩⟩⟩⟩⟩⟩⟩)
  ·exact s10b _ _ _ rfl (AllP.cons.2 ⟨H1,AllP.cons.2 ⟨H2,AllP.cons.2 ⟨H3,AllP.cons.2 ⟨J1,AllP.cons.2 ⟨J2,AllP.cons.2 ⟨J3,AllP.cons.2 ⟨J4,AllP.cons.2 ⟨hB,AllP.cons.2 ⟨hi.1,AllP.cons.2 ⟨hi.2,AllP.cons.2 ⟨ht.1,AllP.cons.2 ⟨ht.2,AllP.cons.2 ⟨hz,AllP.cons.2 ⟨B3,AllP.cons.2 ⟨B4,AllP.cons.2 ⟨hO,AllP.nil⟩⟩⟩⟩⟩⟩⟩⟩⟩⟩⟩⟩⟩⟩⟩⟩)
end Go.Proofs.Ytoncoofmijjgeaa.Sep
