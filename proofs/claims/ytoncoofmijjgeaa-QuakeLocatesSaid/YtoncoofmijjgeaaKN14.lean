/-
  Texts of one seat, joined. No condition. (This text proves no statement by itself.)
-/
import Derived.Test.YtoncoofmijjgeaaKR13
import Derived.Test.YtoncoofmijjgeaaKSep21
import Derived.Test.YtoncoofmijjgeaaKR10
namespace Go.Proofs.Ytoncoofmijjgeaa.M
open Go
set_option linter.unusedVariables false
set_option linter.unusedSimpArgs false
def inB (z t:Sc):Bool:=decide (t.k=z.k∧t.c=z.c∧t.q=z.q∧t.a≤z.a∧z.b≤t.b)
inductive Sub:List Sc→List Sc→Prop
 | nil (b:List Sc):Sub [] b
 | skip {a b:List Sc} (y:Sc) (h:Sub a b):Sub a (y :: b)
 | cons {a b:List Sc} {x y:Sc} (hx:inB x y=true) (h:Sub a b):Sub (x :: a) (y :: b)
theorem Sub.app {a b a' b':List Sc} (h:Sub a b) (h':Sub a' b'):Sub (a ++ a') (b ++ b'):=by
 induction h with
 | nil b =>
  induction b with
  | nil=>exact h'
  | cons y b ih=>exact .skip y ih
 | skip y h ih=>exact .skip y ih
 | cons hx h ih=>exact .cons hx ih
theorem Sub.one {x y:Sc} (h:inB x y=true):Sub [x] [y]:=.cons h (.nil [])
theorem Sub.map {a b:List Sc} (h:Sub a b) : ∃ p:Nat→Nat,(∀ i,i<a.length→p i<b.length∧inB (scR a i) (scR b (p i))=true)∧∀ i,i+1<a.length→p i<p (i+1):=by
 induction h with
 | nil b=>exact ⟨fun _=>0,fun i h=>by simp at h,fun i h=>by simp at h⟩
 | skip y h ih =>
  obtain ⟨p,h1,h2⟩:=ih
  exact ⟨fun i=>p i+1,fun i hi=>⟨by have:=(h1 i hi).1; simp; omega,(h1 i hi).2⟩,fun i hi=>by have:=h2 i hi; simp only []; omega⟩
 | cons hx h ih =>
  obtain ⟨p,h1,h2⟩:=ih
  refine ⟨fun i=>match i with | 0=>0 | i+1=>p i+1,fun i hi => ?_,fun i hi => ?_⟩
  ·cases i with
   | zero=>exact ⟨by simp,hx⟩
   | succ i =>
    simp only [List.length_cons] at hi
    exact ⟨by have:=(h1 i (by omega)).1; simp; omega,(h1 i (by omega)).2⟩
  ·cases i with
   | zero=>simp
   | succ i =>
    simp only [List.length_cons] at hi
    have:=h2 i (by omega)
    simp only []; omega
end Go.Proofs.Ytoncoofmijjgeaa.M
namespace Go.Proofs.Ytoncoofmijjgeaa.M
end Go.Proofs.Ytoncoofmijjgeaa.M
namespace Go.Proofs.Ytoncoofmijjgeaa.Sep
open Go
set_option linter.unusedVariables false
set_option linter.unusedSimpArgs false
end Go.Proofs.Ytoncoofmijjgeaa.Sep
namespace Go.Proofs.Ytoncoofmijjgeaa.M
open Go
set_option linter.unusedVariables false
set_option linter.unusedSimpArgs false
theorem Lf.mono {a b:Int} {c c':Int→Int} {u v:Int} {r r':Bool × Int × Int} (h:Lf a b c u r) (h':Lf a b c' v r') (hc:∀ t,a≤t→t≤b→u≤c t→v≤c' t) (hr:r.1=true):r'.1=true∧r'.2.1≤r.2.1∧r.2.2≤r'.2.2:=by
 obtain ⟨a1,a2,a3,a4,a5⟩:=h.1 hr
 obtain ⟨b1,b2,b3⟩:=h'.2.2 _ a1 (by omega) (hc _ a1 (by omega) a4)
 obtain ⟨c1,c2,c3⟩:=h'.2.2 _ (by omega) a3 (hc _ (by omega) a3 a5)
 exact ⟨b1,b2,c3⟩
namespace Gd
variable {g g' : Gd} {x : Nat → Int} {s : Sc} {f f' : Int} {m m' ns : Nat} {P P' : Nat → Pk}
end Gd
namespace Gd
variable {g g' : Gd} {x : Nat → Int} {s : Sc} {f f' : Int} {m m' ns : Nat} {P P' : Nat → Pk}
def Wd (g g':Gd):Prop:=g'.w=g.w∧g'.h=g.h∧g'.s=g.s∧g'.v0≤g.v0∧g.v1≤g'.v1∧g'.d0≤g.d0∧g.d1≤g'.d1∧g.r≤g'.r
theorem Wd.bounds (hw:g.Wd g') (hk:g.ok) (hk':g'.ok) {a b:Int} (ha:g.cell a) (hb:g.cell b):g'.T0 a b≤g.T0 a b∧g.T1 a b≤g'.T1 a b∧∀ q,g'.S0 q a b≤g.S0 q a b∧g.S1 q a b≤g'.S1 q a b:=by
 obtain ⟨w1,w2,w3,w4,w5,w6,w7,w8⟩:=hw
 have ha':g'.cell a:=by unfold cell at *; rw [w1,w2]; exact ha
 have hb':g'.cell b:=by unfold cell at *; rw [w1,w2]; exact hb
 obtain ⟨-,-,-,-,n1,n2,n3,n4⟩:=near_far hk ha hb
 obtain ⟨-,-,-,-,m1,m2,m3,m4⟩:=near_far hk' ha' hb'
 have ex:g'.dx a b=g.dx a b:=by unfold dx; rw [w1]
 have ey:g'.dy a b=g.dy a b:=by unfold dy; rw [w1]
 obtain ⟨k1,k2,k3,⟨k4,k5,k6⟩,⟨k7,k8,k9⟩,k10⟩:=hk
 obtain ⟨l1,l2,l3,⟨l4,l5,l6⟩,⟨l7,l8,l9⟩,l10⟩:=hk'
 have hn:g'.near a b≤g.near a b:=by
  unfold near
  rw [ex,ey,w3]
  have:=(sq_bd l7 w6).2
  omega
 have hf:g.far a b≤g'.far a b:=by
  unfold far
  rw [ex,ey,w3]
  have:=(sq_bd (x:=g.d1) (y:=g'.d1) (by omega) w7).2
  omega
 have d0:g'.D0 a b≤g.D0 a b:=by
  unfold D0
  have:=root_mono (n:=g'.near a b+1) (m:=g.near a b+1) (by omega) (by omega)
  omega
 have d1:g.D1 a b≤g'.D1 a b:=by
  unfold D1
  have:=root_mono (n:=g.far a b) (m:=g'.far a b) hf (by omega)
  omega
 have hk:g.ok:=⟨k1,k2,k3,⟨k4,k5,k6⟩,⟨k7,k8,k9⟩,k10⟩
 have hk':g'.ok:=⟨l1,l2,l3,⟨l4,l5,l6⟩,⟨l7,l8,l9⟩,l10⟩
 obtain ⟨e1,e2,e3,e4⟩:=D_bd hk ha hb
 obtain ⟨f1,f2,f3,f4⟩:=D_bd hk' ha' hb'
 refine ⟨?_,?_,fun q => ?_⟩
 ·unfold T0
  have h1:1000*g'.D0 a b/g'.v1≤1000*g'.D0 a b/g.v1:=by
   rw [Int.le_ediv_iff_mul_le (by omega)]
   have h3:1000*g'.D0 a b/g'.v1*g.v1≤1000*g'.D0 a b/g'.v1*g'.v1:=Int.mul_le_mul_of_nonneg_left w5 (Int.ediv_nonneg (by omega) (by omega))
   have h4:=Int.ediv_mul_le (1000*g'.D0 a b) (show g'.v1≠0 by omega)
   omega
  have h2:1000*g'.D0 a b/g.v1≤1000*g.D0 a b/g.v1:=Int.ediv_le_ediv (by omega) (by omega)
  omega
 ·unfold T1
  have h1:(1000*g.D1 a b-1)/g.v0≤(1000*g.D1 a b-1)/g'.v0:=by
   rw [Int.le_ediv_iff_mul_le (by omega)]
   have h3:(1000*g.D1 a b-1)/g.v0*g'.v0≤(1000*g.D1 a b-1)/g.v0*g.v0:=Int.mul_le_mul_of_nonneg_left w4 (Int.ediv_nonneg (by omega) (by omega))
   have h4:=Int.ediv_mul_le (1000*g.D1 a b-1) (show g.v0≠0 by omega)
   omega
  have h2:(1000*g.D1 a b-1)/g'.v0≤(1000*g'.D1 a b-1)/g'.v0:=Int.ediv_le_ediv (by omega) (by omega)
  omega
 ·unfold S0 S1
  have h1:=fall_mono (d:=g.D1 a b) (e:=g'.D1 a b) (by omega) d1
  have h2:=fall_mono (d:=g'.D0 a b) (e:=g.D0 a b) f1 d0
  omega
theorem Wd.alw (hw:g.Wd g') (hk:g.ok) (hk':g'.ok) {p:Pk} (hs:g.cell s.c) (hx:g.cell (x p.s.toNat)) {t:Int} (h:g.alw x s p t=true):g'.alw x s p t=true:=by
 obtain ⟨a1,a2,a3⟩:=hw.bounds hk hk' hs hx
 obtain ⟨a4,a5⟩:=a3 s.q
 unfold Gd.alw at h ⊢
 split at h
 ·rename_i c
  rw [if_pos c]
  simp only [decide_eq_true_eq] at h ⊢
  omega
 ·rename_i c
  rw [if_neg c]
  split at h
  ·rename_i c2
   rw [if_pos c2]
   simp only [decide_eq_true_eq] at h ⊢
   omega
  ·rename_i c2
   rw [if_neg c2]
   simp only [decide_eq_true_eq] at h ⊢
   omega
end Gd
end Go.Proofs.Ytoncoofmijjgeaa.M
namespace Go.Proofs.Ytoncoofmijjgeaa.M
namespace Gd
end Gd
end Go.Proofs.Ytoncoofmijjgeaa.M
namespace Go.Proofs.Ytoncoofmijjgeaa.Sep
open Go
set_option linter.unusedVariables false
set_option linter.unusedSimpArgs false
def e21t:List SV→Option (List Prop × SV)
 | [.sl 5 n g_1,.sl 5 m g_2]=>some ([Row 5 n g_1,Row 5 m g_2,n≤100000,m≤100000,M.same n m (fun i=>M.Sc.mk (cI g_1 0 i) (cI g_1 1 i) (cI g_1 2 i) (cI g_1 3 i) (cI g_1 4 i)) (fun i=>M.Sc.mk (cI g_2 0 i) (cI g_2 1 i) (cI g_2 2 i) (cI g_2 3 i) (cI g_2 4 i))=true],.bool true)
 | _=>none
theorem s21t:PureOK PP 21 e21t:=by
 intro xs ps res h hp
 unfold e21t at h
 split at h
 ·rename_i n g_1 m g_2
  cases h
  simp only [AllP.cons] at hp
  obtain ⟨Hg_1,Hg_2,hp⟩:=hp
  have h6:=s21 [.sl 5 n g_1,.sl 5 m g_2] _ _ rfl (AllP.cons.2 ⟨Hg_1,(AllP.cons.2 ⟨Hg_2,(AllP.cons.2 ⟨(hp.1),(AllP.cons.2 ⟨(hp.2.1),AllP.nil⟩)⟩)⟩)⟩)
  rw [hp.2.2.1] at h6
  exact h6
 ·cases h
end Go.Proofs.Ytoncoofmijjgeaa.Sep
namespace Go.Proofs.Ytoncoofmijjgeaa.M
namespace Gd
end Gd
end Go.Proofs.Ytoncoofmijjgeaa.M
namespace Go.Proofs.Ytoncoofmijjgeaa.Sep
open Go
set_option linter.unusedVariables false
set_option linter.unusedSimpArgs false
end Go.Proofs.Ytoncoofmijjgeaa.Sep
namespace Go.Proofs.Ytoncoofmijjgeaa.M
def P0:Nat→Pk:=fun _=>⟨0,0,0,0,0,0⟩
def snP (m:Nat) (P:Nat→Pk) (p:Pk):Nat→Pk:=fun k=>if k<m then P k else p
def adE (ns m:Nat) (p:Pk):Int:=if m=64 then 9 else p.vE ns
def adM (ns m:Nat) (p:Pk):Nat:=if adE ns m p=0 then m+1 else m
theorem snP_lt {m k:Nat} {P:Nat→Pk} {p:Pk} (h:k<m):snP m P p k=P k:=by unfold snP; rw [if_pos h]
theorem le_sn {g:Gd} {x:Nat→Int} {n:Nat} {S:Nat→Sc} {m:Nat} {P:Nat→Pk} {p:Pk} {f:Int} : g.leN x S m (snP m P p) f n=g.leN x S m P f n∧g.leR x S m (snP m P p) f n=g.leR x S m P f n:=by
 have e:∀ k,g.leL x S m (snP m P p) f k=g.leL x S m P f k:=by
  intro k
  induction k with
  | zero=>rfl
  | succ k ih =>
   unfold Gd.leL Gd.one
   rw [ih,Gd.lft_congr (P:=snP m P p) (P':=P) fun i hi=>snP_lt hi]
 unfold Gd.leN Gd.leR
 rw [e]
 exact ⟨rfl,rfl⟩
theorem ck_sn {g:Gd} {ns:Nat} {x:Nat→Int} {n:Nat} {S:Nat→Sc} {m:Nat} {P:Nat→Pk} {p:Pk} {f:Int} (h:g.Ck ns x n S m P f) (hE:adE ns m p=0):m<64∧g.Ck ns x n S (m+1) (snP m P p) f:=by
 obtain ⟨k1,k2,k3,k4,k6,k7,k8⟩:=h
 unfold adE at hE
 split at hE
 ·omega
 ·rename_i hm
  have hp:=Pk.vE_ok.1 hE
  refine ⟨by omega,k1,k2,k3,k4,by omega,fun i hi => ?_,k8⟩
  unfold snP
  split
  ·rename_i c; exact k7 i c
  ·exact hp
theorem ck_ad {g:Gd} {ns:Nat} {x:Nat→Int} {n:Nat} {S:Nat→Sc} {m:Nat} {P:Nat→Pk} {p:Pk} {f:Int} (h:g.Ck ns x n S m P f):g.Ck ns x n S (adM ns m p) (snP m P p) f:=by
 unfold adM
 split
 ·rename_i hE; exact (ck_sn h hE).2
 ·obtain ⟨k1,k2,k3,k4,k6,k7,k8⟩:=h
  exact ⟨k1,k2,k3,k4,k6,fun i hi=>by rw [snP_lt hi]; exact k7 i hi,k8⟩
end Go.Proofs.Ytoncoofmijjgeaa.M
namespace Go.Proofs.Ytoncoofmijjgeaa.Sep
open Go
set_option linter.unusedVariables false
set_option linter.unusedSimpArgs false
def e85p:List SV→Option (List Prop × SV)
 | [.sl 5 n g_1]=>some ([Row 5 n g_1,0<n,n≤100000],.sl 5 n (fun k=>[SI (M.Sc.k ((fun i=>M.Sc.mk (cI g_1 0 i) (cI g_1 1 i) (cI g_1 2 i) (cI g_1 3 i) (cI g_1 4 i)) k)),SI (M.Sc.c ((fun i=>M.Sc.mk (cI g_1 0 i) (cI g_1 1 i) (cI g_1 2 i) (cI g_1 3 i) (cI g_1 4 i)) k)),SI (M.Sc.q ((fun i=>M.Sc.mk (cI g_1 0 i) (cI g_1 1 i) (cI g_1 2 i) (cI g_1 3 i) (cI g_1 4 i)) k)),SI (M.Sc.a ((fun i=>M.Sc.mk (cI g_1 0 i) (cI g_1 1 i) (cI g_1 2 i) (cI g_1 3 i) (cI g_1 4 i)) k)),SI (M.Sc.b ((fun i=>M.Sc.mk (cI g_1 0 i) (cI g_1 1 i) (cI g_1 2 i) (cI g_1 3 i) (cI g_1 4 i)) k))]))
 | _=>none
def Rr85p (n:Nat) (S:Nat→M.Sc):Prop:=(fun (z0:Nat)=>z0<n∧(false=true→n=z0)∧(false=false→(∀ (k:Nat),k<n→true=true)∧z0≤z0∧(z0+n)*(40:Nat)≤(140737488355328:Nat)∧z0+(z0+n)≤z0+n∧z0+n=n∧∀ (k:Nat),k<z0+n→(bif decide (z0+k<z0) then (0:Int) else (S (z0+k-z0)).k)=(S k).k∧(bif decide (z0+k<z0) then (0:Int) else (S (z0+k-z0)).c)=(S k).c∧(bif decide (z0+k<z0) then (0:Int) else (S (z0+k-z0)).q)=(S k).q∧(bif decide (z0+k<z0) then (0:Int) else (S (z0+k-z0)).a)=(S k).a∧(bif decide (z0+k<z0) then (0:Int) else (S (z0+k-z0)).b)=(S k).b)) (0:Nat)
theorem r85p (n:Nat) (S:Nat→M.Sc):V true [] [] Try.f85 [0,2,4] [] [.sl 5 n (fun k=>[SI (M.Sc.k (S k)),SI (M.Sc.c (S k)),SI (M.Sc.q (S k)),SI (M.Sc.a (S k)),SI (M.Sc.b (S k))])] (.sl 5 n (fun k=>[SI (M.Sc.k (S k)),SI (M.Sc.c (S k)),SI (M.Sc.q (S k)),SI (M.Sc.a (S k)),SI (M.Sc.b (S k))]))=Rr85p n S:=by kernel_rfl
theorem br85p (n:Nat) (S:Nat→M.Sc) (hp:(0<n)∧(n≤100000)∧AllP []):Rr85p n S:=by
 unfold Rr85p
 dsimp -iota -proj -eta -zeta only
 obtain ⟨h1,h2,-⟩:=id hp
 simp [h1]
 omega
theorem s85p:PureOK PP 85 e85p:=by
 intro xs ps res h hp
 unfold e85p at h
 split at h
 ·rename_i n g_1
  cases h
  simp only [AllP.cons] at hp
  obtain ⟨Hg_1,hp⟩:=hp
  exact Spec.args (enterH (Hold.of (r85p n (fun i=>M.Sc.mk (cI g_1 0 i) (cI g_1 1 i) (cI g_1 2 i) (cI g_1 3 i) (cI g_1 4 i))) (br85p n (fun i=>M.Sc.mk (cI g_1 0 i) (cI g_1 1 i) (cI g_1 2 i) (cI g_1 3 i) (cI g_1 4 i)) hp)) (.nil) (.nil) (k:=85) (by kernel_rfl) (by kernel_rfl) (fun _=>.nil)) (.cons (.row Hg_1 fun _=>rfl) .nil)
 ·cases h
def e88p:List SV→Option (List Prop × SV)
 | [.sl 6 n g_1]=>some ([Row 6 n g_1,0<n,n≤100000],.sl 6 n (fun k=>[SI (M.Pk.k ((fun i=>M.Pk.mk (cI g_1 0 i) (cI g_1 1 i) (cI g_1 2 i) (cI g_1 3 i) (cI g_1 4 i) (cI g_1 5 i)) k)),SI (M.Pk.s ((fun i=>M.Pk.mk (cI g_1 0 i) (cI g_1 1 i) (cI g_1 2 i) (cI g_1 3 i) (cI g_1 4 i) (cI g_1 5 i)) k)),SI (M.Pk.t0 ((fun i=>M.Pk.mk (cI g_1 0 i) (cI g_1 1 i) (cI g_1 2 i) (cI g_1 3 i) (cI g_1 4 i) (cI g_1 5 i)) k)),SI (M.Pk.t1 ((fun i=>M.Pk.mk (cI g_1 0 i) (cI g_1 1 i) (cI g_1 2 i) (cI g_1 3 i) (cI g_1 4 i) (cI g_1 5 i)) k)),SI (M.Pk.l0 ((fun i=>M.Pk.mk (cI g_1 0 i) (cI g_1 1 i) (cI g_1 2 i) (cI g_1 3 i) (cI g_1 4 i) (cI g_1 5 i)) k)),SI (M.Pk.l1 ((fun i=>M.Pk.mk (cI g_1 0 i) (cI g_1 1 i) (cI g_1 2 i) (cI g_1 3 i) (cI g_1 4 i) (cI g_1 5 i)) k))]))
 | _=>none
def Rr88p (n:Nat) (P:Nat→M.Pk):Prop:=(fun (z1:Int) (z0:Nat)=>z0<n∧(false=true→n=z0)∧(false=false→(∀ (k:Nat),k<n→true=true)∧z0≤z0∧(z0+n)*(48:Nat)≤(140737488355328:Nat)∧z0+(z0+n)≤z0+n∧z0+n=n∧∀ (k:Nat),k<z0+n→(bif decide (z0+k<z0) then z1 else (P (z0+k-z0)).k)=(P k).k∧(bif decide (z0+k<z0) then z1 else (P (z0+k-z0)).s)=(P k).s∧(bif decide (z0+k<z0) then z1 else (P (z0+k-z0)).t0)=(P k).t0∧(bif decide (z0+k<z0) then z1 else (P (z0+k-z0)).t1)=(P k).t1∧(bif decide (z0+k<z0) then z1 else (P (z0+k-z0)).l0)=(P k).l0∧(bif decide (z0+k<z0) then z1 else (P (z0+k-z0)).l1)=(P k).l1)) (0:Int) (0:Nat)
theorem r88p (n:Nat) (P:Nat→M.Pk):V true [] [] Try.f88 [0,2,4] [] [.sl 6 n (fun k=>[SI (M.Pk.k (P k)),SI (M.Pk.s (P k)),SI (M.Pk.t0 (P k)),SI (M.Pk.t1 (P k)),SI (M.Pk.l0 (P k)),SI (M.Pk.l1 (P k))])] (.sl 6 n (fun k=>[SI (M.Pk.k (P k)),SI (M.Pk.s (P k)),SI (M.Pk.t0 (P k)),SI (M.Pk.t1 (P k)),SI (M.Pk.l0 (P k)),SI (M.Pk.l1 (P k))]))=Rr88p n P:=by kernel_rfl
theorem br88p (n:Nat) (P:Nat→M.Pk) (hp:(0<n)∧(n≤100000)∧AllP []):Rr88p n P:=by
 unfold Rr88p
 dsimp -iota -proj -eta -zeta only
 obtain ⟨h1,h2,-⟩:=id hp
 simp [h1]
 omega
theorem s88p:PureOK PP 88 e88p:=by
 intro xs ps res h hp
 unfold e88p at h
 split at h
 ·rename_i n g_1
  cases h
  simp only [AllP.cons] at hp
  obtain ⟨Hg_1,hp⟩:=hp
  exact Spec.args (enterH (Hold.of (r88p n (fun i=>M.Pk.mk (cI g_1 0 i) (cI g_1 1 i) (cI g_1 2 i) (cI g_1 3 i) (cI g_1 4 i) (cI g_1 5 i))) (br88p n (fun i=>M.Pk.mk (cI g_1 0 i) (cI g_1 1 i) (cI g_1 2 i) (cI g_1 3 i) (cI g_1 4 i) (cI g_1 5 i)) hp)) (.nil) (.nil) (k:=88) (by kernel_rfl) (by kernel_rfl) (fun _=>.nil)) (.cons (.row Hg_1 fun _=>rfl) .nil)
 ·cases h
def e76p:List SV→Option (List Prop × SV)
 | [.sl 1 n g_1]=>some ([Row 1 n g_1,0<n,n≤100000],.sl 1 n (fun k=>[SI ((cI g_1 0) k)]))
 | _=>none
def Rr76p (n:Nat) (x:Nat→Int):Prop:=(fun (z0:Nat)=>z0<n∧(false=true→n=z0)∧(false=false→(∀ (k:Nat),k<n→true=true)∧z0≤z0∧(z0+n)*(8:Nat)≤(140737488355328:Nat)∧z0+(z0+n)≤z0+n∧z0+n=n∧∀ (k:Nat),k<z0+n→(bif decide (z0+k<z0) then (0:Int) else x (z0+k-z0))=x k)) (0:Nat)
theorem r76p (n:Nat) (x:Nat→Int):V true [] [] Try.f76 [0,2,4] [] [.sl 1 n (fun k=>[SI (x k)])] (.sl 1 n (fun k=>[SI (x k)]))=Rr76p n x:=by kernel_rfl
theorem br76p (n:Nat) (x:Nat→Int) (hp:(0<n)∧(n≤100000)∧AllP []):Rr76p n x:=by
 unfold Rr76p
 dsimp -iota -proj -eta -zeta only
 obtain ⟨h1,h2,-⟩:=id hp
 simp [h1]
 omega
theorem s76p:PureOK PP 76 e76p:=by
 intro xs ps res h hp
 unfold e76p at h
 split at h
 ·rename_i n g_1
  cases h
  simp only [AllP.cons] at hp
  obtain ⟨Hg_1,hp⟩:=hp
  exact Spec.args (enterH (Hold.of (r76p n (cI g_1 0)) (br76p n (cI g_1 0) hp)) (.nil) (.nil) (k:=76) (by kernel_rfl) (by kernel_rfl) (fun _=>.nil)) (.cons (.row Hg_1 fun _=>rfl) .nil)
 ·cases h
theorem SLe.nilS {a:Option Addr} {c s:Nat} {f:Nat→List SV} : SLe (.lit (.slice a 0 c)) (.sl s 0 f):=fun S w ρ v hv=>by
 simp only [SV.den] at hv ⊢
 obtain rfl:=hv.lit_inv
 exact .vslNil
theorem pure_nil {f:FuncId} {sz:Nat} {r:AV} (h:∀ a c,Pure PP f [.lit (.slice a 0 c)] r):Pure PP f [.vsl sz []] r:=by
 refine ⟨(h none 0).1,(h none 0).2.1,fun ρ0 S w vs hm ha => ?_⟩
 have hz:vs.size=1:=ha.1
 obtain ⟨v,hv⟩ : ∃ v,vs[0]? = some v:=⟨vs[0],by simp [hz]⟩
 obtain ⟨a,c,rfl,-⟩:=(ha.2 0 _ v rfl hv).vsl_inv
 refine (h a c).2.2 ρ0 S w vs hm ⟨hz,fun k x u h1 h2 => ?_⟩
 rcases k with _ | k
 ·simp only [List.getElem?_cons_zero,Option.some.injEq] at h1
  subst h1
  rw [hv] at h2
  cases h2
  exact .lit _
 ·simp at h1
def Rr85z (a:Option Addr) (c:Nat):Prop:=(fun (z0:Nat)=>(Option.isNone a=true→z0=z0)∧(Option.isNone a=false→(∀ (k:Nat),k<z0→true=true)∧z0≤z0∧(z0+z0)*(40:Nat)≤(140737488355328:Nat)∧z0+(z0+z0)≤z0+z0∧z0+z0=z0∧∀ (k:Nat),k<z0+z0→True)) (0:Nat)
theorem r85z (a:Option Addr) (c:Nat):V true [] [] Try.f85 [0,2,4] [] [.lit (.slice a 0 c)] (.sl 5 0 (fun _=>[]))=Rr85z a c:=by kernel_rfl
theorem br85z (a:Option Addr) (c:Nat)  : Rr85z a c:=by
 unfold Rr85z
 dsimp -iota -proj -eta -zeta only
 cases a <;> simp
theorem p85z (a:Option Addr) (c:Nat)  : Pure PP 85 (SV.denL [.lit (.slice a 0 c)]) (.sl 5 0 (fun _=>[]):SV).den:=by
  exact enterH (Hold.of (r85z a c) (br85z a c )) (.nil) (.nil) (k:=85) (by kernel_rfl) (by kernel_rfl) (fun _=>.nil)
def Rr88z (a:Option Addr) (c:Nat):Prop:=(fun (z0:Nat)=>(Option.isNone a=true→z0=z0)∧(Option.isNone a=false→(∀ (k:Nat),k<z0→true=true)∧z0≤z0∧(z0+z0)*(48:Nat)≤(140737488355328:Nat)∧z0+(z0+z0)≤z0+z0∧z0+z0=z0∧∀ (k:Nat),k<z0+z0→True)) (0:Nat)
theorem r88z (a:Option Addr) (c:Nat):V true [] [] Try.f88 [0,2,4] [] [.lit (.slice a 0 c)] (.sl 6 0 (fun _=>[]))=Rr88z a c:=by kernel_rfl
theorem br88z (a:Option Addr) (c:Nat)  : Rr88z a c:=by
 unfold Rr88z
 dsimp -iota -proj -eta -zeta only
 cases a <;> simp
theorem p88z (a:Option Addr) (c:Nat)  : Pure PP 88 (SV.denL [.lit (.slice a 0 c)]) (.sl 6 0 (fun _=>[]):SV).den:=by
  exact enterH (Hold.of (r88z a c) (br88z a c )) (.nil) (.nil) (k:=88) (by kernel_rfl) (by kernel_rfl) (fun _=>.nil)
def Rr76z (a:Option Addr) (c:Nat):Prop:=(fun (z0:Nat)=>(Option.isNone a=true→z0=z0)∧(Option.isNone a=false→(∀ (k:Nat),k<z0→true=true)∧z0≤z0∧(z0+z0)*(8:Nat)≤(140737488355328:Nat)∧z0+(z0+z0)≤z0+z0∧z0+z0=z0∧∀ (k:Nat),k<z0+z0→True)) (0:Nat)
theorem r76z (a:Option Addr) (c:Nat):V true [] [] Try.f76 [0,2,4] [] [.lit (.slice a 0 c)] (.sl 1 0 (fun _=>[]))=Rr76z a c:=by kernel_rfl
theorem br76z (a:Option Addr) (c:Nat)  : Rr76z a c:=by
 unfold Rr76z
 dsimp -iota -proj -eta -zeta only
 cases a <;> simp
theorem p76z (a:Option Addr) (c:Nat)  : Pure PP 76 (SV.denL [.lit (.slice a 0 c)]) (.sl 1 0 (fun _=>[]):SV).den:=by
  exact enterH (Hold.of (r76z a c) (br76z a c )) (.nil) (.nil) (k:=76) (by kernel_rfl) (by kernel_rfl) (fun _=>.nil)
def e88q:EntB
 | [.sl 6 n g_1],[]=>some ([Row 6 n g_1,0<n,n≤100000],.vec 0 6 0 n,[.row 6 n (fun k=>[SI (M.Pk.k ((fun i=>M.Pk.mk (cI g_1 0 i) (cI g_1 1 i) (cI g_1 2 i) (cI g_1 3 i) (cI g_1 4 i) (cI g_1 5 i)) k)),SI (M.Pk.s ((fun i=>M.Pk.mk (cI g_1 0 i) (cI g_1 1 i) (cI g_1 2 i) (cI g_1 3 i) (cI g_1 4 i) (cI g_1 5 i)) k)),SI (M.Pk.t0 ((fun i=>M.Pk.mk (cI g_1 0 i) (cI g_1 1 i) (cI g_1 2 i) (cI g_1 3 i) (cI g_1 4 i) (cI g_1 5 i)) k)),SI (M.Pk.t1 ((fun i=>M.Pk.mk (cI g_1 0 i) (cI g_1 1 i) (cI g_1 2 i) (cI g_1 3 i) (cI g_1 4 i) (cI g_1 5 i)) k)),SI (M.Pk.l0 ((fun i=>M.Pk.mk (cI g_1 0 i) (cI g_1 1 i) (cI g_1 2 i) (cI g_1 3 i) (cI g_1 4 i) (cI g_1 5 i)) k)),SI (M.Pk.l1 ((fun i=>M.Pk.mk (cI g_1 0 i) (cI g_1 1 i) (cI g_1 2 i) (cI g_1 3 i) (cI g_1 4 i) (cI g_1 5 i)) k))])])
 | _,_=>none
def Rr88q (n:Nat) (P:Nat→M.Pk):Prop:=(fun (z1:Int) (z0:Nat)=>z0<n∧(false=true→n=z0∧n=z0∧True)∧(false=false→(∀ (k:Nat),k<n→true=true)∧z0≤z0∧(z0+n)*(48:Nat)≤(140737488355328:Nat)∧z0=z0∧z0+n=n∧n≤z0+n∧(∀ (k:Nat),k<n→(bif decide (k<z0) then z1 else (P (k-z0)).k)=(P k).k∧(bif decide (k<z0) then z1 else (P (k-z0)).s)=(P k).s∧(bif decide (k<z0) then z1 else (P (k-z0)).t0)=(P k).t0∧(bif decide (k<z0) then z1 else (P (k-z0)).t1)=(P k).t1∧(bif decide (k<z0) then z1 else (P (k-z0)).l0)=(P k).l0∧(bif decide (k<z0) then z1 else (P (k-z0)).l1)=(P k).l1)∧True)) (0:Int) (0:Nat)
theorem r88q (n:Nat) (P:Nat→M.Pk):VN true [] [] Try.f88 [0,2,4] [] [.sl 6 n (fun k=>[SI (M.Pk.k (P k)),SI (M.Pk.s (P k)),SI (M.Pk.t0 (P k)),SI (M.Pk.t1 (P k)),SI (M.Pk.l0 (P k)),SI (M.Pk.l1 (P k))])] [] (.vec 0 6 0 n) [.row 6 n (fun k=>[SI (M.Pk.k (P k)),SI (M.Pk.s (P k)),SI (M.Pk.t0 (P k)),SI (M.Pk.t1 (P k)),SI (M.Pk.l0 (P k)),SI (M.Pk.l1 (P k))])]=Rr88q n P:=by kernel_rfl
theorem br88q (n:Nat) (P:Nat→M.Pk) (hp:(0<n)∧(n≤100000)∧AllP []):Rr88q n P:=by
 unfold Rr88q
 dsimp -iota -proj -eta -zeta only
 obtain ⟨h1,h2,-⟩:=id hp
 simp [h1]
 omega
theorem s88q:SpecOK PP 88 e88q:=by
 intro xs Hs ps res Hs1 h hp
 unfold e88q at h
 split at h
 ·rename_i n g_1
  cases h
  simp only [AllP.cons] at hp
  obtain ⟨Hg_1,hp⟩:=hp
  exact Spec.args (enterNH (Hold.of (r88q n (fun i=>M.Pk.mk (cI g_1 0 i) (cI g_1 1 i) (cI g_1 2 i) (cI g_1 3 i) (cI g_1 4 i) (cI g_1 5 i))) (br88q n (fun i=>M.Pk.mk (cI g_1 0 i) (cI g_1 1 i) (cI g_1 2 i) (cI g_1 3 i) (cI g_1 4 i) (cI g_1 5 i)) hp)) (.nil) (.nil) (k:=88) (by kernel_rfl) (by kernel_rfl) rfl (fun _=>.nil)) (.cons (.row Hg_1 fun _=>rfl) .nil)
 ·cases h
def Rr88y (a:Option Addr) (c:Nat):Prop:=(fun (z0:Nat)=>(Option.isNone a=true→z0=z0∧z0=z0∧True)∧(Option.isNone a=false→(∀ (k:Nat),k<z0→true=true)∧z0≤z0∧(z0+z0)*(48:Nat)≤(140737488355328:Nat)∧z0=z0∧z0+z0=z0∧z0≤z0+z0∧(∀ (k:Nat),k<z0→True)∧True)) (0:Nat)
theorem r88y (a:Option Addr) (c:Nat):VN true [] [] Try.f88 [0,2,4] [] [.lit (.slice a 0 c)] [] (.vec 0 6 0 0) [.row 6 0 (fun _=>[])]=Rr88y a c:=by kernel_rfl
theorem br88y (a:Option Addr) (c:Nat)  : Rr88y a c:=by
 unfold Rr88y
 dsimp -iota -proj -eta -zeta only
 cases a <;> simp
theorem p88y (a:Option Addr) (c:Nat)  : Spec PP 88 (SV.denL [.lit (.slice a 0 c)]) (List.map SBlk.den []) (.vec 0 6 0 0:SV).den (List.map SBlk.den [.row 6 0 (fun _=>[])]):=by
  exact enterNH (Hold.of (r88y a c) (br88y a c )) (.nil) (.nil) (k:=88) (by kernel_rfl) (by kernel_rfl) rfl (fun _=>.nil)
theorem spec_nil {f:FuncId} {sz:Nat} {r:AV} {Hs Hs':List Blk} (h:∀ a c,Spec PP f [.lit (.slice a 0 c)] Hs r Hs'):Spec PP f [.vsl sz []] Hs r Hs':=by
 refine ⟨(h none 0).1,(h none 0).2.1,fun ρ0 S w vs hm ha => ?_⟩
 have hz:vs.size=1:=ha.1
 obtain ⟨v,hv⟩ : ∃ v,vs[0]? = some v:=⟨vs[0],by simp [hz]⟩
 obtain ⟨a,c,rfl,-⟩:=(ha.2 0 _ v rfl hv).vsl_inv
 refine (h a c).2.2 ρ0 S w vs hm ⟨hz,fun k x u h1 h2 => ?_⟩
 rcases k with _ | k
 ·simp only [List.getElem?_cons_zero,Option.some.injEq] at h1
  subst h1
  rw [hv] at h2
  cases h2
  exact .lit _
 ·simp at h1
def e88w:EntB
 | [.sl 6 n g_1],[]=>some ([Row 6 n g_1,n≤100000],.vec 0 6 0 n,[.row 6 n (fun k=>[SI (cI g_1 0 k),SI (cI g_1 1 k),SI (cI g_1 2 k),SI (cI g_1 3 k),SI (cI g_1 4 k),SI (cI g_1 5 k)])])
 | _,_=>none
theorem s88w:SpecOK PP 88 e88w:=by
 intro xs Hs ps res Hs1 h hp
 unfold e88w at h
 split at h
 ·rename_i n g_1
  cases h
  simp only [AllP.cons] at hp
  obtain ⟨H1,h2,-⟩:=hp
  rcases Nat.eq_zero_or_pos n with h0 | h0
  ·subst h0
   exact spec_nil (f:=88) (sz:=6) (r:=(SV.vec 0 6 0 0).den) (fun a c=>p88y a c)
  ·exact s88q [.sl 6 n g_1] [] _ _ _ rfl (AllP.cons.2 ⟨H1,AllP.cons.2 ⟨h0,AllP.cons.2 ⟨h2,AllP.nil⟩⟩⟩)
 ·cases h
def e85:List SV→Option (List Prop × SV)
 | [.sl 5 n g_1]=>some ([Row 5 n g_1,n≤100000],.sl 5 n (fun k=>[SI (M.Sc.k ((fun i=>M.Sc.mk (cI g_1 0 i) (cI g_1 1 i) (cI g_1 2 i) (cI g_1 3 i) (cI g_1 4 i)) k)),SI (M.Sc.c ((fun i=>M.Sc.mk (cI g_1 0 i) (cI g_1 1 i) (cI g_1 2 i) (cI g_1 3 i) (cI g_1 4 i)) k)),SI (M.Sc.q ((fun i=>M.Sc.mk (cI g_1 0 i) (cI g_1 1 i) (cI g_1 2 i) (cI g_1 3 i) (cI g_1 4 i)) k)),SI (M.Sc.a ((fun i=>M.Sc.mk (cI g_1 0 i) (cI g_1 1 i) (cI g_1 2 i) (cI g_1 3 i) (cI g_1 4 i)) k)),SI (M.Sc.b ((fun i=>M.Sc.mk (cI g_1 0 i) (cI g_1 1 i) (cI g_1 2 i) (cI g_1 3 i) (cI g_1 4 i)) k))]))
 | _=>none
theorem s85:PureOK PP 85 e85:=by
 intro xs ps res h hp
 unfold e85 at h
 split at h
 ·rename_i n g_1
  cases h
  simp only [AllP.cons] at hp
  obtain ⟨Hg_1,hp⟩:=hp
  rcases Nat.eq_zero_or_pos n with h0 | h0
  ·subst h0
   exact pure_nil (f:=85) (sz:=5) (r:=(SV.sl 5 0 (fun _=>[])).den) (fun a c=>p85z a c)
  ·exact s85p [.sl 5 n g_1] _ _ rfl (AllP.cons.2 ⟨Hg_1,AllP.cons.2 ⟨h0,AllP.cons.2 ⟨hp.1,AllP.nil⟩⟩⟩)
 ·cases h
def e88:List SV→Option (List Prop × SV)
 | [.sl 6 n g_1]=>some ([Row 6 n g_1,n≤100000],.sl 6 n (fun k=>[SI (M.Pk.k ((fun i=>M.Pk.mk (cI g_1 0 i) (cI g_1 1 i) (cI g_1 2 i) (cI g_1 3 i) (cI g_1 4 i) (cI g_1 5 i)) k)),SI (M.Pk.s ((fun i=>M.Pk.mk (cI g_1 0 i) (cI g_1 1 i) (cI g_1 2 i) (cI g_1 3 i) (cI g_1 4 i) (cI g_1 5 i)) k)),SI (M.Pk.t0 ((fun i=>M.Pk.mk (cI g_1 0 i) (cI g_1 1 i) (cI g_1 2 i) (cI g_1 3 i) (cI g_1 4 i) (cI g_1 5 i)) k)),SI (M.Pk.t1 ((fun i=>M.Pk.mk (cI g_1 0 i) (cI g_1 1 i) (cI g_1 2 i) (cI g_1 3 i) (cI g_1 4 i) (cI g_1 5 i)) k)),SI (M.Pk.l0 ((fun i=>M.Pk.mk (cI g_1 0 i) (cI g_1 1 i) (cI g_1 2 i) (cI g_1 3 i) (cI g_1 4 i) (cI g_1 5 i)) k)),SI (M.Pk.l1 ((fun i=>M.Pk.mk (cI g_1 0 i) (cI g_1 1 i) (cI g_1 2 i) (cI g_1 3 i) (cI g_1 4 i) (cI g_1 5 i)) k))]))
 | _=>none
theorem s88:PureOK PP 88 e88:=by
 intro xs ps res h hp
 unfold e88 at h
 split at h
 ·rename_i n g_1
  cases h
  simp only [AllP.cons] at hp
  obtain ⟨Hg_1,hp⟩:=hp
  rcases Nat.eq_zero_or_pos n with h0 | h0
  ·subst h0
   exact pure_nil (f:=88) (sz:=6) (r:=(SV.sl 6 0 (fun _=>[])).den) (fun a c=>p88z a c)
  ·exact s88p [.sl 6 n g_1] _ _ rfl (AllP.cons.2 ⟨Hg_1,AllP.cons.2 ⟨h0,AllP.cons.2 ⟨hp.1,AllP.nil⟩⟩⟩)
 ·cases h
def e76s:List SV→Option (List Prop × SV)
 | [.sl 1 n g_1]=>some ([Row 1 n g_1,n≤100000],.sl 1 n (fun k=>[SI ((cI g_1 0) k)]))
 | _=>none
theorem s76s:PureOK PP 76 e76s:=by
 intro xs ps res h hp
 unfold e76s at h
 split at h
 ·rename_i n g_1
  cases h
  simp only [AllP.cons] at hp
  obtain ⟨Hg_1,hp⟩:=hp
  rcases Nat.eq_zero_or_pos n with h0 | h0
  ·subst h0
   exact pure_nil (f:=76) (sz:=1) (r:=(SV.sl 1 0 (fun _=>[])).den) (fun a c=>p76z a c)
  ·exact s76p [.sl 1 n g_1] _ _ rfl (AllP.cons.2 ⟨Hg_1,AllP.cons.2 ⟨h0,AllP.cons.2 ⟨hp.1,AllP.nil⟩⟩⟩)
 ·cases h
def e59n:List SV→Option (List Prop × SV)
 | [.agg [.int .i64 g_w,.int .i64 g_h,.int .i64 g_s,.int .i64 g_v0,.int .i64 g_v1,.int .i64 g_d0,.int .i64 g_d1,.int .i64 g_r,.sl 1 ns g_1,.int .i64 f],.sl 5 n g_2,.lit (.slice none 0 0)]=>some ([Row 1 ns g_1,Row 5 n g_2,ns≤100000,n≤100000],SI (M.Gd.ckE (M.Gd.mk g_w g_h g_s g_v0 g_v1 g_d0 g_d1 g_r) ns (cI g_1 0) n (fun i=>M.Sc.mk (cI g_2 0 i) (cI g_2 1 i) (cI g_2 2 i) (cI g_2 3 i) (cI g_2 4 i)) 0 M.P0 f))
 | _=>none
theorem s59n:PureOK PP 59 e59n:=by
 intro xs ps res h hp
 unfold e59n at h
 split at h
 ·rename_i g_w g_h g_s g_v0 g_v1 g_d0 g_d1 g_r ns g_1 f n g_2
  cases h
  simp only [AllP.cons] at hp
  obtain ⟨Hg_1,Hg_2,hp⟩:=hp
  have h6:=s59 [.agg [.int .i64 g_w,.int .i64 g_h,.int .i64 g_s,.int .i64 g_v0,.int .i64 g_v1,.int .i64 g_d0,.int .i64 g_d1,.int .i64 g_r,.sl 1 ns g_1,.int .i64 f],.sl 5 n g_2,.sl 6 0 (fun _=>[])] _ _ rfl (AllP.cons.2 ⟨Hg_1,(AllP.cons.2 ⟨Hg_2,(AllP.cons.2 ⟨(fun k hk=>absurd hk (Nat.not_lt_zero k)),(AllP.cons.2 ⟨(hp.1),(AllP.cons.2 ⟨(hp.2.1),(AllP.cons.2 ⟨(by omega),AllP.nil⟩)⟩)⟩)⟩)⟩)⟩)
  replace h6:=Spec.args (xs:=[.agg [.int .i64 g_w,.int .i64 g_h,.int .i64 g_s,.int .i64 g_v0,.int .i64 g_v1,.int .i64 g_d0,.int .i64 g_d1,.int .i64 g_r,.sl 1 ns g_1,.int .i64 f],.sl 5 n g_2,.lit (.slice none 0 0)]) h6 (.cons (.refl _) (.cons (.refl _) (.cons SLe.nilS .nil)))
  exact h6
 ·cases h
def e60n:List SV→Option (List Prop × SV)
 | [.agg [.int .i64 g_w,.int .i64 g_h,.int .i64 g_s,.int .i64 g_v0,.int .i64 g_v1,.int .i64 g_d0,.int .i64 g_d1,.int .i64 g_r,.sl 1 ns g_1,.int .i64 f],.sl 5 n g_2,.lit (.slice none 0 0)]=>some ([Row 1 ns g_1,Row 5 n g_2,M.Gd.Ck (M.Gd.mk g_w g_h g_s g_v0 g_v1 g_d0 g_d1 g_r) ns (cI g_1 0) n (fun i=>M.Sc.mk (cI g_2 0 i) (cI g_2 1 i) (cI g_2 2 i) (cI g_2 3 i) (cI g_2 4 i)) 0 M.P0 f],.sl 5 (M.Gd.leN (M.Gd.mk g_w g_h g_s g_v0 g_v1 g_d0 g_d1 g_r) (cI g_1 0) (fun i=>M.Sc.mk (cI g_2 0 i) (cI g_2 1 i) (cI g_2 2 i) (cI g_2 3 i) (cI g_2 4 i)) 0 M.P0 f n) (fun k=>[SI (M.Gd.leR (M.Gd.mk g_w g_h g_s g_v0 g_v1 g_d0 g_d1 g_r) (cI g_1 0) (fun i=>M.Sc.mk (cI g_2 0 i) (cI g_2 1 i) (cI g_2 2 i) (cI g_2 3 i) (cI g_2 4 i)) 0 M.P0 f n k).k,SI (M.Gd.leR (M.Gd.mk g_w g_h g_s g_v0 g_v1 g_d0 g_d1 g_r) (cI g_1 0) (fun i=>M.Sc.mk (cI g_2 0 i) (cI g_2 1 i) (cI g_2 2 i) (cI g_2 3 i) (cI g_2 4 i)) 0 M.P0 f n k).c,SI (M.Gd.leR (M.Gd.mk g_w g_h g_s g_v0 g_v1 g_d0 g_d1 g_r) (cI g_1 0) (fun i=>M.Sc.mk (cI g_2 0 i) (cI g_2 1 i) (cI g_2 2 i) (cI g_2 3 i) (cI g_2 4 i)) 0 M.P0 f n k).q,SI (M.Gd.leR (M.Gd.mk g_w g_h g_s g_v0 g_v1 g_d0 g_d1 g_r) (cI g_1 0) (fun i=>M.Sc.mk (cI g_2 0 i) (cI g_2 1 i) (cI g_2 2 i) (cI g_2 3 i) (cI g_2 4 i)) 0 M.P0 f n k).a,SI (M.Gd.leR (M.Gd.mk g_w g_h g_s g_v0 g_v1 g_d0 g_d1 g_r) (cI g_1 0) (fun i=>M.Sc.mk (cI g_2 0 i) (cI g_2 1 i) (cI g_2 2 i) (cI g_2 3 i) (cI g_2 4 i)) 0 M.P0 f n k).b]))
 | _=>none
theorem s60n:PureOK PP 60 e60n:=by
 intro xs ps res h hp
 unfold e60n at h
 split at h
 ·rename_i g_w g_h g_s g_v0 g_v1 g_d0 g_d1 g_r ns g_1 f n g_2
  cases h
  simp only [AllP.cons] at hp
  obtain ⟨Hg_1,Hg_2,hp⟩:=hp
  have h6:=s60 [.agg [.int .i64 g_w,.int .i64 g_h,.int .i64 g_s,.int .i64 g_v0,.int .i64 g_v1,.int .i64 g_d0,.int .i64 g_d1,.int .i64 g_r,.sl 1 ns g_1,.int .i64 f],.sl 5 n g_2,.sl 6 0 (fun _=>[])] _ _ rfl (AllP.cons.2 ⟨Hg_1,(AllP.cons.2 ⟨Hg_2,(AllP.cons.2 ⟨(fun k hk=>absurd hk (Nat.not_lt_zero k)),(AllP.cons.2 ⟨(hp.1),AllP.nil⟩)⟩)⟩)⟩)
  replace h6:=Spec.args (xs:=[.agg [.int .i64 g_w,.int .i64 g_h,.int .i64 g_s,.int .i64 g_v0,.int .i64 g_v1,.int .i64 g_d0,.int .i64 g_d1,.int .i64 g_r,.sl 1 ns g_1,.int .i64 f],.sl 5 n g_2,.lit (.slice none 0 0)]) h6 (.cons (.refl _) (.cons (.refl _) (.cons SLe.nilS .nil)))
  exact h6
 ·cases h
def e86:EntB
 | [.ptr 0 0],[.cells [.int .i64 g_w,.int .i64 g_h,.int .i64 g_s,.int .i64 g_v0,.int .i64 g_v1,.int .i64 g_d0,.int .i64 g_d1,.int .i64 g_r,.sl 1 ns g_1,.int .i64 f,.bool true,.sl 5 n g_2,.sl 6 m g_3,.sl 5 N g_4]]=>some ([Row 1 ns g_1,Row 5 n g_2,Row 6 m g_3,Row 5 N g_4],.bool true,[.cells [SI (M.Gd.w (M.Gd.mk g_w g_h g_s g_v0 g_v1 g_d0 g_d1 g_r)),SI (M.Gd.h (M.Gd.mk g_w g_h g_s g_v0 g_v1 g_d0 g_d1 g_r)),SI (M.Gd.s (M.Gd.mk g_w g_h g_s g_v0 g_v1 g_d0 g_d1 g_r)),SI (M.Gd.v0 (M.Gd.mk g_w g_h g_s g_v0 g_v1 g_d0 g_d1 g_r)),SI (M.Gd.v1 (M.Gd.mk g_w g_h g_s g_v0 g_v1 g_d0 g_d1 g_r)),SI (M.Gd.d0 (M.Gd.mk g_w g_h g_s g_v0 g_v1 g_d0 g_d1 g_r)),SI (M.Gd.d1 (M.Gd.mk g_w g_h g_s g_v0 g_v1 g_d0 g_d1 g_r)),SI (M.Gd.r (M.Gd.mk g_w g_h g_s g_v0 g_v1 g_d0 g_d1 g_r)),.sl 1 ns (fun k=>[SI ((cI g_1 0) k)]),SI f,.bool true,.sl 5 n (fun k=>[SI (M.Sc.k ((fun i=>M.Sc.mk (cI g_2 0 i) (cI g_2 1 i) (cI g_2 2 i) (cI g_2 3 i) (cI g_2 4 i)) k)),SI (M.Sc.c ((fun i=>M.Sc.mk (cI g_2 0 i) (cI g_2 1 i) (cI g_2 2 i) (cI g_2 3 i) (cI g_2 4 i)) k)),SI (M.Sc.q ((fun i=>M.Sc.mk (cI g_2 0 i) (cI g_2 1 i) (cI g_2 2 i) (cI g_2 3 i) (cI g_2 4 i)) k)),SI (M.Sc.a ((fun i=>M.Sc.mk (cI g_2 0 i) (cI g_2 1 i) (cI g_2 2 i) (cI g_2 3 i) (cI g_2 4 i)) k)),SI (M.Sc.b ((fun i=>M.Sc.mk (cI g_2 0 i) (cI g_2 1 i) (cI g_2 2 i) (cI g_2 3 i) (cI g_2 4 i)) k))]),.sl 6 m (fun k=>[SI (M.Pk.k ((fun i=>M.Pk.mk (cI g_3 0 i) (cI g_3 1 i) (cI g_3 2 i) (cI g_3 3 i) (cI g_3 4 i) (cI g_3 5 i)) k)),SI (M.Pk.s ((fun i=>M.Pk.mk (cI g_3 0 i) (cI g_3 1 i) (cI g_3 2 i) (cI g_3 3 i) (cI g_3 4 i) (cI g_3 5 i)) k)),SI (M.Pk.t0 ((fun i=>M.Pk.mk (cI g_3 0 i) (cI g_3 1 i) (cI g_3 2 i) (cI g_3 3 i) (cI g_3 4 i) (cI g_3 5 i)) k)),SI (M.Pk.t1 ((fun i=>M.Pk.mk (cI g_3 0 i) (cI g_3 1 i) (cI g_3 2 i) (cI g_3 3 i) (cI g_3 4 i) (cI g_3 5 i)) k)),SI (M.Pk.l0 ((fun i=>M.Pk.mk (cI g_3 0 i) (cI g_3 1 i) (cI g_3 2 i) (cI g_3 3 i) (cI g_3 4 i) (cI g_3 5 i)) k)),SI (M.Pk.l1 ((fun i=>M.Pk.mk (cI g_3 0 i) (cI g_3 1 i) (cI g_3 2 i) (cI g_3 3 i) (cI g_3 4 i) (cI g_3 5 i)) k))]),.sl 5 N (fun k=>[SI (M.Sc.k ((fun i=>M.Sc.mk (cI g_4 0 i) (cI g_4 1 i) (cI g_4 2 i) (cI g_4 3 i) (cI g_4 4 i)) k)),SI (M.Sc.c ((fun i=>M.Sc.mk (cI g_4 0 i) (cI g_4 1 i) (cI g_4 2 i) (cI g_4 3 i) (cI g_4 4 i)) k)),SI (M.Sc.q ((fun i=>M.Sc.mk (cI g_4 0 i) (cI g_4 1 i) (cI g_4 2 i) (cI g_4 3 i) (cI g_4 4 i)) k)),SI (M.Sc.a ((fun i=>M.Sc.mk (cI g_4 0 i) (cI g_4 1 i) (cI g_4 2 i) (cI g_4 3 i) (cI g_4 4 i)) k)),SI (M.Sc.b ((fun i=>M.Sc.mk (cI g_4 0 i) (cI g_4 1 i) (cI g_4 2 i) (cI g_4 3 i) (cI g_4 4 i)) k))])]])
 | _,_=>none
def Rr86 (g:M.Gd) (ns:Nat) (x:Nat→Int) (n:Nat) (S:Nat→M.Sc) (m:Nat) (P:Nat→M.Pk) (f:Int) (N:Nat) (L:Nat→M.Sc):Prop:=(fun (z0:Prop)=>z0∧z0∧z0∧z0∧(g.w=g.w∧g.h=g.h∧g.s=g.s∧g.v0=g.v0∧g.v1=g.v1∧g.d0=g.d0∧g.d1=g.d1∧g.r=g.r∧(ns=ns∧∀ (k:Nat),k<ns→x k=x k)∧f=f∧true=true∧(n=n∧∀ (k:Nat),k<n→(S k).k=(S k).k∧(S k).c=(S k).c∧(S k).q=(S k).q∧(S k).a=(S k).a∧(S k).b=(S k).b)∧(m=m∧∀ (k:Nat),k<m→(P k).k=(P k).k∧(P k).s=(P k).s∧(P k).t0=(P k).t0∧(P k).t1=(P k).t1∧(P k).l0=(P k).l0∧(P k).l1=(P k).l1)∧N=N∧∀ (k:Nat),k<N→(L k).k=(L k).k∧(L k).c=(L k).c∧(L k).q=(L k).q∧(L k).a=(L k).a∧(L k).b=(L k).b)∧(bif !false then true else false)=true) ((!false)=true→(!false)=true)
theorem r86 (g:M.Gd) (ns:Nat) (x:Nat→Int) (n:Nat) (S:Nat→M.Sc) (m:Nat) (P:Nat→M.Pk) (f:Int) (N:Nat) (L:Nat→M.Sc):VB true [] [] Try.f86 [0,2] [] [.ptr 0 0] [.cells [SI (M.Gd.w g),SI (M.Gd.h g),SI (M.Gd.s g),SI (M.Gd.v0 g),SI (M.Gd.v1 g),SI (M.Gd.d0 g),SI (M.Gd.d1 g),SI (M.Gd.r g),.sl 1 ns (fun k=>[SI (x k)]),SI f,.bool true,.sl 5 n (fun k=>[SI (M.Sc.k (S k)),SI (M.Sc.c (S k)),SI (M.Sc.q (S k)),SI (M.Sc.a (S k)),SI (M.Sc.b (S k))]),.sl 6 m (fun k=>[SI (M.Pk.k (P k)),SI (M.Pk.s (P k)),SI (M.Pk.t0 (P k)),SI (M.Pk.t1 (P k)),SI (M.Pk.l0 (P k)),SI (M.Pk.l1 (P k))]),.sl 5 N (fun k=>[SI (M.Sc.k (L k)),SI (M.Sc.c (L k)),SI (M.Sc.q (L k)),SI (M.Sc.a (L k)),SI (M.Sc.b (L k))])]] (.bool true) [.cells [SI (M.Gd.w g),SI (M.Gd.h g),SI (M.Gd.s g),SI (M.Gd.v0 g),SI (M.Gd.v1 g),SI (M.Gd.d0 g),SI (M.Gd.d1 g),SI (M.Gd.r g),.sl 1 ns (fun k=>[SI (x k)]),SI f,.bool true,.sl 5 n (fun k=>[SI (M.Sc.k (S k)),SI (M.Sc.c (S k)),SI (M.Sc.q (S k)),SI (M.Sc.a (S k)),SI (M.Sc.b (S k))]),.sl 6 m (fun k=>[SI (M.Pk.k (P k)),SI (M.Pk.s (P k)),SI (M.Pk.t0 (P k)),SI (M.Pk.t1 (P k)),SI (M.Pk.l0 (P k)),SI (M.Pk.l1 (P k))]),.sl 5 N (fun k=>[SI (M.Sc.k (L k)),SI (M.Sc.c (L k)),SI (M.Sc.q (L k)),SI (M.Sc.a (L k)),SI (M.Sc.b (L k))])]]=Rr86 g ns x n S m P f N L:=by kernel_rfl
theorem br86 (g:M.Gd) (ns:Nat) (x:Nat→Int) (n:Nat) (S:Nat→M.Sc) (m:Nat) (P:Nat→M.Pk) (f:Int) (N:Nat) (L:Nat→M.Sc)  : Rr86 g ns x n S m P f N L:=by
 unfold Rr86
 dsimp -iota -proj -eta -zeta only
 simp
theorem s86:SpecOK PP 86 e86:=by
 intro xs Hs ps res Hs1 h hp
 unfold e86 at h
 split at h
 ·rename_i g_w g_h g_s g_v0 g_v1 g_d0 g_d1 g_r ns g_1 f n g_2 m g_3 N g_4
  cases h
  simp only [AllP.cons] at hp
  obtain ⟨Hg_1,Hg_2,Hg_3,Hg_4,hp⟩:=hp
  exact Spec.blocks (enterBH (Hold.of (r86 (M.Gd.mk g_w g_h g_s g_v0 g_v1 g_d0 g_d1 g_r) ns (cI g_1 0) n (fun i=>M.Sc.mk (cI g_2 0 i) (cI g_2 1 i) (cI g_2 2 i) (cI g_2 3 i) (cI g_2 4 i)) m (fun i=>M.Pk.mk (cI g_3 0 i) (cI g_3 1 i) (cI g_3 2 i) (cI g_3 3 i) (cI g_3 4 i) (cI g_3 5 i)) f N (fun i=>M.Sc.mk (cI g_4 0 i) (cI g_4 1 i) (cI g_4 2 i) (cI g_4 3 i) (cI g_4 4 i))) (br86 (M.Gd.mk g_w g_h g_s g_v0 g_v1 g_d0 g_d1 g_r) ns (cI g_1 0) n (fun i=>M.Sc.mk (cI g_2 0 i) (cI g_2 1 i) (cI g_2 2 i) (cI g_2 3 i) (cI g_2 4 i)) m (fun i=>M.Pk.mk (cI g_3 0 i) (cI g_3 1 i) (cI g_3 2 i) (cI g_3 3 i) (cI g_3 4 i) (cI g_3 5 i)) f N (fun i=>M.Sc.mk (cI g_4 0 i) (cI g_4 1 i) (cI g_4 2 i) (cI g_4 3 i) (cI g_4 4 i)) )) (.nil) (.nil) (k:=86) (by kernel_rfl) (by kernel_rfl) rfl (fun _=>.nil)) (.cells (.cons (.refl _) (.cons (.refl _) (.cons (.refl _) (.cons (.refl _) (.cons (.refl _) (.cons (.refl _) (.cons (.refl _) (.cons (.refl _) (.cons (.row Hg_1 fun _=>rfl) (.cons (.refl _) (.cons (.refl _) (.cons (.row Hg_2 fun _=>rfl) (.cons (.row Hg_3 fun _=>rfl) (.cons (.row Hg_4 fun _=>rfl) .nil)))))))))))))) .nil)
 ·cases h
def e50:EntB
 | [.ptr 0 0],[.cells [.int .i64 g_w,.int .i64 g_h,.int .i64 g_s,.int .i64 g_v0,.int .i64 g_v1,.int .i64 g_d0,.int .i64 g_d1,.int .i64 g_r,.sl 1 ns g_1,.int .i64 f,.bool true,.sl 5 n g_2,.sl 6 m g_3,.sl 5 N g_4]]=>some ([Row 1 ns g_1,Row 5 n g_2,Row 6 m g_3,Row 5 N g_4,m≤100000],.sl 6 m (fun k=>[SI (M.Pk.k ((fun i=>M.Pk.mk (cI g_3 0 i) (cI g_3 1 i) (cI g_3 2 i) (cI g_3 3 i) (cI g_3 4 i) (cI g_3 5 i)) k)),SI (M.Pk.s ((fun i=>M.Pk.mk (cI g_3 0 i) (cI g_3 1 i) (cI g_3 2 i) (cI g_3 3 i) (cI g_3 4 i) (cI g_3 5 i)) k)),SI (M.Pk.t0 ((fun i=>M.Pk.mk (cI g_3 0 i) (cI g_3 1 i) (cI g_3 2 i) (cI g_3 3 i) (cI g_3 4 i) (cI g_3 5 i)) k)),SI (M.Pk.t1 ((fun i=>M.Pk.mk (cI g_3 0 i) (cI g_3 1 i) (cI g_3 2 i) (cI g_3 3 i) (cI g_3 4 i) (cI g_3 5 i)) k)),SI (M.Pk.l0 ((fun i=>M.Pk.mk (cI g_3 0 i) (cI g_3 1 i) (cI g_3 2 i) (cI g_3 3 i) (cI g_3 4 i) (cI g_3 5 i)) k)),SI (M.Pk.l1 ((fun i=>M.Pk.mk (cI g_3 0 i) (cI g_3 1 i) (cI g_3 2 i) (cI g_3 3 i) (cI g_3 4 i) (cI g_3 5 i)) k))]),[.cells [SI (M.Gd.w (M.Gd.mk g_w g_h g_s g_v0 g_v1 g_d0 g_d1 g_r)),SI (M.Gd.h (M.Gd.mk g_w g_h g_s g_v0 g_v1 g_d0 g_d1 g_r)),SI (M.Gd.s (M.Gd.mk g_w g_h g_s g_v0 g_v1 g_d0 g_d1 g_r)),SI (M.Gd.v0 (M.Gd.mk g_w g_h g_s g_v0 g_v1 g_d0 g_d1 g_r)),SI (M.Gd.v1 (M.Gd.mk g_w g_h g_s g_v0 g_v1 g_d0 g_d1 g_r)),SI (M.Gd.d0 (M.Gd.mk g_w g_h g_s g_v0 g_v1 g_d0 g_d1 g_r)),SI (M.Gd.d1 (M.Gd.mk g_w g_h g_s g_v0 g_v1 g_d0 g_d1 g_r)),SI (M.Gd.r (M.Gd.mk g_w g_h g_s g_v0 g_v1 g_d0 g_d1 g_r)),.sl 1 ns (fun k=>[SI ((cI g_1 0) k)]),SI f,.bool true,.sl 5 n (fun k=>[SI (M.Sc.k ((fun i=>M.Sc.mk (cI g_2 0 i) (cI g_2 1 i) (cI g_2 2 i) (cI g_2 3 i) (cI g_2 4 i)) k)),SI (M.Sc.c ((fun i=>M.Sc.mk (cI g_2 0 i) (cI g_2 1 i) (cI g_2 2 i) (cI g_2 3 i) (cI g_2 4 i)) k)),SI (M.Sc.q ((fun i=>M.Sc.mk (cI g_2 0 i) (cI g_2 1 i) (cI g_2 2 i) (cI g_2 3 i) (cI g_2 4 i)) k)),SI (M.Sc.a ((fun i=>M.Sc.mk (cI g_2 0 i) (cI g_2 1 i) (cI g_2 2 i) (cI g_2 3 i) (cI g_2 4 i)) k)),SI (M.Sc.b ((fun i=>M.Sc.mk (cI g_2 0 i) (cI g_2 1 i) (cI g_2 2 i) (cI g_2 3 i) (cI g_2 4 i)) k))]),.sl 6 m (fun k=>[SI (M.Pk.k ((fun i=>M.Pk.mk (cI g_3 0 i) (cI g_3 1 i) (cI g_3 2 i) (cI g_3 3 i) (cI g_3 4 i) (cI g_3 5 i)) k)),SI (M.Pk.s ((fun i=>M.Pk.mk (cI g_3 0 i) (cI g_3 1 i) (cI g_3 2 i) (cI g_3 3 i) (cI g_3 4 i) (cI g_3 5 i)) k)),SI (M.Pk.t0 ((fun i=>M.Pk.mk (cI g_3 0 i) (cI g_3 1 i) (cI g_3 2 i) (cI g_3 3 i) (cI g_3 4 i) (cI g_3 5 i)) k)),SI (M.Pk.t1 ((fun i=>M.Pk.mk (cI g_3 0 i) (cI g_3 1 i) (cI g_3 2 i) (cI g_3 3 i) (cI g_3 4 i) (cI g_3 5 i)) k)),SI (M.Pk.l0 ((fun i=>M.Pk.mk (cI g_3 0 i) (cI g_3 1 i) (cI g_3 2 i) (cI g_3 3 i) (cI g_3 4 i) (cI g_3 5 i)) k)),SI (M.Pk.l1 ((fun i=>M.Pk.mk (cI g_3 0 i) (cI g_3 1 i) (cI g_3 2 i) (cI g_3 3 i) (cI g_3 4 i) (cI g_3 5 i)) k))]),.sl 5 N (fun k=>[SI (M.Sc.k ((fun i=>M.Sc.mk (cI g_4 0 i) (cI g_4 1 i) (cI g_4 2 i) (cI g_4 3 i) (cI g_4 4 i)) k)),SI (M.Sc.c ((fun i=>M.Sc.mk (cI g_4 0 i) (cI g_4 1 i) (cI g_4 2 i) (cI g_4 3 i) (cI g_4 4 i)) k)),SI (M.Sc.q ((fun i=>M.Sc.mk (cI g_4 0 i) (cI g_4 1 i) (cI g_4 2 i) (cI g_4 3 i) (cI g_4 4 i)) k)),SI (M.Sc.a ((fun i=>M.Sc.mk (cI g_4 0 i) (cI g_4 1 i) (cI g_4 2 i) (cI g_4 3 i) (cI g_4 4 i)) k)),SI (M.Sc.b ((fun i=>M.Sc.mk (cI g_4 0 i) (cI g_4 1 i) (cI g_4 2 i) (cI g_4 3 i) (cI g_4 4 i)) k))])]])
 | _,_=>none
def Rr50 (g:M.Gd) (ns:Nat) (x:Nat→Int) (n:Nat) (S:Nat→M.Sc) (m:Nat) (P:Nat→M.Pk) (f:Int) (N:Nat) (L:Nat→M.Sc):Prop:=(fun (z1:Prop)=>(fun (z0:Prop)=>(∀ (k:Nat),k<ns→x k=x k)∧(∀ (k:Nat),k<n→(S k).k=(S k).k∧(S k).c=(S k).c∧(S k).q=(S k).q∧(S k).a=(S k).a∧(S k).b=(S k).b)∧z1∧(∀ (k:Nat),k<N→(L k).k=(L k).k∧(L k).c=(L k).c∧(L k).q=(L k).q∧(L k).a=(L k).a∧(L k).b=(L k).b)∧((!true)=true→z0∧m=(0:Nat))∧((!true)=false→z1∧m≤(100000:Nat)∧z0∧m=m∧z1)) (g.w=g.w∧g.h=g.h∧g.s=g.s∧g.v0=g.v0∧g.v1=g.v1∧g.d0=g.d0∧g.d1=g.d1∧g.r=g.r∧(ns=ns∧∀ (k:Nat),k<ns→x k=x k)∧f=f∧true=true∧(n=n∧∀ (k:Nat),k<n→(S k).k=(S k).k∧(S k).c=(S k).c∧(S k).q=(S k).q∧(S k).a=(S k).a∧(S k).b=(S k).b)∧(m=m∧z1)∧N=N∧∀ (k:Nat),k<N→(L k).k=(L k).k∧(L k).c=(L k).c∧(L k).q=(L k).q∧(L k).a=(L k).a∧(L k).b=(L k).b)) (∀ (k:Nat),k<m→(P k).k=(P k).k∧(P k).s=(P k).s∧(P k).t0=(P k).t0∧(P k).t1=(P k).t1∧(P k).l0=(P k).l0∧(P k).l1=(P k).l1)
theorem r50 (g:M.Gd) (ns:Nat) (x:Nat→Int) (n:Nat) (S:Nat→M.Sc) (m:Nat) (P:Nat→M.Pk) (f:Int) (N:Nat) (L:Nat→M.Sc):VB true [] [(86,specE e86),(88,pureE e88)] Try.f50 [0,2,5] [] [.ptr 0 0] [.cells [SI (M.Gd.w g),SI (M.Gd.h g),SI (M.Gd.s g),SI (M.Gd.v0 g),SI (M.Gd.v1 g),SI (M.Gd.d0 g),SI (M.Gd.d1 g),SI (M.Gd.r g),.sl 1 ns (fun k=>[SI (x k)]),SI f,.bool true,.sl 5 n (fun k=>[SI (M.Sc.k (S k)),SI (M.Sc.c (S k)),SI (M.Sc.q (S k)),SI (M.Sc.a (S k)),SI (M.Sc.b (S k))]),.sl 6 m (fun k=>[SI (M.Pk.k (P k)),SI (M.Pk.s (P k)),SI (M.Pk.t0 (P k)),SI (M.Pk.t1 (P k)),SI (M.Pk.l0 (P k)),SI (M.Pk.l1 (P k))]),.sl 5 N (fun k=>[SI (M.Sc.k (L k)),SI (M.Sc.c (L k)),SI (M.Sc.q (L k)),SI (M.Sc.a (L k)),SI (M.Sc.b (L k))])]] (.sl 6 m (fun k=>[SI (M.Pk.k (P k)),SI (M.Pk.s (P k)),SI (M.Pk.t0 (P k)),SI (M.Pk.t1 (P k)),SI (M.Pk.l0 (P k)),SI (M.Pk.l1 (P k))])) [.cells [SI (M.Gd.w g),SI (M.Gd.h g),SI (M.Gd.s g),SI (M.Gd.v0 g),SI (M.Gd.v1 g),SI (M.Gd.d0 g),SI (M.Gd.d1 g),SI (M.Gd.r g),.sl 1 ns (fun k=>[SI (x k)]),SI f,.bool true,.sl 5 n (fun k=>[SI (M.Sc.k (S k)),SI (M.Sc.c (S k)),SI (M.Sc.q (S k)),SI (M.Sc.a (S k)),SI (M.Sc.b (S k))]),.sl 6 m (fun k=>[SI (M.Pk.k (P k)),SI (M.Pk.s (P k)),SI (M.Pk.t0 (P k)),SI (M.Pk.t1 (P k)),SI (M.Pk.l0 (P k)),SI (M.Pk.l1 (P k))]),.sl 5 N (fun k=>[SI (M.Sc.k (L k)),SI (M.Sc.c (L k)),SI (M.Sc.q (L k)),SI (M.Sc.a (L k)),SI (M.Sc.b (L k))])]]=Rr50 g ns x n S m P f N L:=by kernel_rfl
theorem br50 (g:M.Gd) (ns:Nat) (x:Nat→Int) (n:Nat) (S:Nat→M.Sc) (m:Nat) (P:Nat→M.Pk) (f:Int) (N:Nat) (L:Nat→M.Sc) (hp:(m≤100000)∧AllP []):Rr50 g ns x n S m P f N L:=by
 unfold Rr50
 dsimp -iota -proj -eta -zeta only
 simp
 exact (id hp).1
theorem s50:SpecOK PP 50 e50:=by
 intro xs Hs ps res Hs1 h hp
 unfold e50 at h
 split at h
 ·rename_i g_w g_h g_s g_v0 g_v1 g_d0 g_d1 g_r ns g_1 f n g_2 m g_3 N g_4
  cases h
  simp only [AllP.cons] at hp
  obtain ⟨Hg_1,Hg_2,Hg_3,Hg_4,hp⟩:=hp
  exact Spec.blocks (enterBH (Hold.of (r50 (M.Gd.mk g_w g_h g_s g_v0 g_v1 g_d0 g_d1 g_r) ns (cI g_1 0) n (fun i=>M.Sc.mk (cI g_2 0 i) (cI g_2 1 i) (cI g_2 2 i) (cI g_2 3 i) (cI g_2 4 i)) m (fun i=>M.Pk.mk (cI g_3 0 i) (cI g_3 1 i) (cI g_3 2 i) (cI g_3 3 i) (cI g_3 4 i) (cI g_3 5 i)) f N (fun i=>M.Sc.mk (cI g_4 0 i) (cI g_4 1 i) (cI g_4 2 i) (cI g_4 3 i) (cI g_4 4 i))) (br50 (M.Gd.mk g_w g_h g_s g_v0 g_v1 g_d0 g_d1 g_r) ns (cI g_1 0) n (fun i=>M.Sc.mk (cI g_2 0 i) (cI g_2 1 i) (cI g_2 2 i) (cI g_2 3 i) (cI g_2 4 i)) m (fun i=>M.Pk.mk (cI g_3 0 i) (cI g_3 1 i) (cI g_3 2 i) (cI g_3 3 i) (cI g_3 4 i) (cI g_3 5 i)) f N (fun i=>M.Sc.mk (cI g_4 0 i) (cI g_4 1 i) (cI g_4 2 i) (cI g_4 3 i) (cI g_4 4 i)) hp)) (.nil) (.cons (specE_ok s86) (.cons (pureE_ok s88) (.nil))) (k:=50) (by kernel_rfl) (by kernel_rfl) rfl (fun _=>.nil)) (.cells (.cons (.refl _) (.cons (.refl _) (.cons (.refl _) (.cons (.refl _) (.cons (.refl _) (.cons (.refl _) (.cons (.refl _) (.cons (.refl _) (.cons (.row Hg_1 fun _=>rfl) (.cons (.refl _) (.cons (.refl _) (.cons (.row Hg_2 fun _=>rfl) (.cons (.row Hg_3 fun _=>rfl) (.cons (.row Hg_4 fun _=>rfl) .nil)))))))))))))) .nil)
 ·cases h
def e51:EntB
 | [.ptr 0 0],[.cells [.int .i64 g_w,.int .i64 g_h,.int .i64 g_s,.int .i64 g_v0,.int .i64 g_v1,.int .i64 g_d0,.int .i64 g_d1,.int .i64 g_r,.sl 1 ns g_1,.int .i64 f,.bool true,.sl 5 n g_2,.sl 6 m g_3,.sl 5 N g_4]]=>some ([Row 1 ns g_1,Row 5 n g_2,Row 6 m g_3,Row 5 N g_4,N≤100000],.sl 5 N (fun k=>[SI (M.Sc.k ((fun i=>M.Sc.mk (cI g_4 0 i) (cI g_4 1 i) (cI g_4 2 i) (cI g_4 3 i) (cI g_4 4 i)) k)),SI (M.Sc.c ((fun i=>M.Sc.mk (cI g_4 0 i) (cI g_4 1 i) (cI g_4 2 i) (cI g_4 3 i) (cI g_4 4 i)) k)),SI (M.Sc.q ((fun i=>M.Sc.mk (cI g_4 0 i) (cI g_4 1 i) (cI g_4 2 i) (cI g_4 3 i) (cI g_4 4 i)) k)),SI (M.Sc.a ((fun i=>M.Sc.mk (cI g_4 0 i) (cI g_4 1 i) (cI g_4 2 i) (cI g_4 3 i) (cI g_4 4 i)) k)),SI (M.Sc.b ((fun i=>M.Sc.mk (cI g_4 0 i) (cI g_4 1 i) (cI g_4 2 i) (cI g_4 3 i) (cI g_4 4 i)) k))]),[.cells [SI (M.Gd.w (M.Gd.mk g_w g_h g_s g_v0 g_v1 g_d0 g_d1 g_r)),SI (M.Gd.h (M.Gd.mk g_w g_h g_s g_v0 g_v1 g_d0 g_d1 g_r)),SI (M.Gd.s (M.Gd.mk g_w g_h g_s g_v0 g_v1 g_d0 g_d1 g_r)),SI (M.Gd.v0 (M.Gd.mk g_w g_h g_s g_v0 g_v1 g_d0 g_d1 g_r)),SI (M.Gd.v1 (M.Gd.mk g_w g_h g_s g_v0 g_v1 g_d0 g_d1 g_r)),SI (M.Gd.d0 (M.Gd.mk g_w g_h g_s g_v0 g_v1 g_d0 g_d1 g_r)),SI (M.Gd.d1 (M.Gd.mk g_w g_h g_s g_v0 g_v1 g_d0 g_d1 g_r)),SI (M.Gd.r (M.Gd.mk g_w g_h g_s g_v0 g_v1 g_d0 g_d1 g_r)),.sl 1 ns (fun k=>[SI ((cI g_1 0) k)]),SI f,.bool true,.sl 5 n (fun k=>[SI (M.Sc.k ((fun i=>M.Sc.mk (cI g_2 0 i) (cI g_2 1 i) (cI g_2 2 i) (cI g_2 3 i) (cI g_2 4 i)) k)),SI (M.Sc.c ((fun i=>M.Sc.mk (cI g_2 0 i) (cI g_2 1 i) (cI g_2 2 i) (cI g_2 3 i) (cI g_2 4 i)) k)),SI (M.Sc.q ((fun i=>M.Sc.mk (cI g_2 0 i) (cI g_2 1 i) (cI g_2 2 i) (cI g_2 3 i) (cI g_2 4 i)) k)),SI (M.Sc.a ((fun i=>M.Sc.mk (cI g_2 0 i) (cI g_2 1 i) (cI g_2 2 i) (cI g_2 3 i) (cI g_2 4 i)) k)),SI (M.Sc.b ((fun i=>M.Sc.mk (cI g_2 0 i) (cI g_2 1 i) (cI g_2 2 i) (cI g_2 3 i) (cI g_2 4 i)) k))]),.sl 6 m (fun k=>[SI (M.Pk.k ((fun i=>M.Pk.mk (cI g_3 0 i) (cI g_3 1 i) (cI g_3 2 i) (cI g_3 3 i) (cI g_3 4 i) (cI g_3 5 i)) k)),SI (M.Pk.s ((fun i=>M.Pk.mk (cI g_3 0 i) (cI g_3 1 i) (cI g_3 2 i) (cI g_3 3 i) (cI g_3 4 i) (cI g_3 5 i)) k)),SI (M.Pk.t0 ((fun i=>M.Pk.mk (cI g_3 0 i) (cI g_3 1 i) (cI g_3 2 i) (cI g_3 3 i) (cI g_3 4 i) (cI g_3 5 i)) k)),SI (M.Pk.t1 ((fun i=>M.Pk.mk (cI g_3 0 i) (cI g_3 1 i) (cI g_3 2 i) (cI g_3 3 i) (cI g_3 4 i) (cI g_3 5 i)) k)),SI (M.Pk.l0 ((fun i=>M.Pk.mk (cI g_3 0 i) (cI g_3 1 i) (cI g_3 2 i) (cI g_3 3 i) (cI g_3 4 i) (cI g_3 5 i)) k)),SI (M.Pk.l1 ((fun i=>M.Pk.mk (cI g_3 0 i) (cI g_3 1 i) (cI g_3 2 i) (cI g_3 3 i) (cI g_3 4 i) (cI g_3 5 i)) k))]),.sl 5 N (fun k=>[SI (M.Sc.k ((fun i=>M.Sc.mk (cI g_4 0 i) (cI g_4 1 i) (cI g_4 2 i) (cI g_4 3 i) (cI g_4 4 i)) k)),SI (M.Sc.c ((fun i=>M.Sc.mk (cI g_4 0 i) (cI g_4 1 i) (cI g_4 2 i) (cI g_4 3 i) (cI g_4 4 i)) k)),SI (M.Sc.q ((fun i=>M.Sc.mk (cI g_4 0 i) (cI g_4 1 i) (cI g_4 2 i) (cI g_4 3 i) (cI g_4 4 i)) k)),SI (M.Sc.a ((fun i=>M.Sc.mk (cI g_4 0 i) (cI g_4 1 i) (cI g_4 2 i) (cI g_4 3 i) (cI g_4 4 i)) k)),SI (M.Sc.b ((fun i=>M.Sc.mk (cI g_4 0 i) (cI g_4 1 i) (cI g_4 2 i) (cI g_4 3 i) (cI g_4 4 i)) k))])]])
 | _,_=>none
def Rr51 (g:M.Gd) (ns:Nat) (x:Nat→Int) (n:Nat) (S:Nat→M.Sc) (m:Nat) (P:Nat→M.Pk) (f:Int) (N:Nat) (L:Nat→M.Sc):Prop:=(fun (z1:Prop)=>(fun (z0:Prop)=>(∀ (k:Nat),k<ns→x k=x k)∧(∀ (k:Nat),k<n→(S k).k=(S k).k∧(S k).c=(S k).c∧(S k).q=(S k).q∧(S k).a=(S k).a∧(S k).b=(S k).b)∧(∀ (k:Nat),k<m→(P k).k=(P k).k∧(P k).s=(P k).s∧(P k).t0=(P k).t0∧(P k).t1=(P k).t1∧(P k).l0=(P k).l0∧(P k).l1=(P k).l1)∧z1∧((!true)=true→z0∧N=(0:Nat))∧((!true)=false→z1∧N≤(100000:Nat)∧z0∧N=N∧z1)) (g.w=g.w∧g.h=g.h∧g.s=g.s∧g.v0=g.v0∧g.v1=g.v1∧g.d0=g.d0∧g.d1=g.d1∧g.r=g.r∧(ns=ns∧∀ (k:Nat),k<ns→x k=x k)∧f=f∧true=true∧(n=n∧∀ (k:Nat),k<n→(S k).k=(S k).k∧(S k).c=(S k).c∧(S k).q=(S k).q∧(S k).a=(S k).a∧(S k).b=(S k).b)∧(m=m∧∀ (k:Nat),k<m→(P k).k=(P k).k∧(P k).s=(P k).s∧(P k).t0=(P k).t0∧(P k).t1=(P k).t1∧(P k).l0=(P k).l0∧(P k).l1=(P k).l1)∧N=N∧z1)) (∀ (k:Nat),k<N→(L k).k=(L k).k∧(L k).c=(L k).c∧(L k).q=(L k).q∧(L k).a=(L k).a∧(L k).b=(L k).b)
theorem r51 (g:M.Gd) (ns:Nat) (x:Nat→Int) (n:Nat) (S:Nat→M.Sc) (m:Nat) (P:Nat→M.Pk) (f:Int) (N:Nat) (L:Nat→M.Sc):VB true [] [(86,specE e86),(85,pureE e85)] Try.f51 [0,2,5] [] [.ptr 0 0] [.cells [SI (M.Gd.w g),SI (M.Gd.h g),SI (M.Gd.s g),SI (M.Gd.v0 g),SI (M.Gd.v1 g),SI (M.Gd.d0 g),SI (M.Gd.d1 g),SI (M.Gd.r g),.sl 1 ns (fun k=>[SI (x k)]),SI f,.bool true,.sl 5 n (fun k=>[SI (M.Sc.k (S k)),SI (M.Sc.c (S k)),SI (M.Sc.q (S k)),SI (M.Sc.a (S k)),SI (M.Sc.b (S k))]),.sl 6 m (fun k=>[SI (M.Pk.k (P k)),SI (M.Pk.s (P k)),SI (M.Pk.t0 (P k)),SI (M.Pk.t1 (P k)),SI (M.Pk.l0 (P k)),SI (M.Pk.l1 (P k))]),.sl 5 N (fun k=>[SI (M.Sc.k (L k)),SI (M.Sc.c (L k)),SI (M.Sc.q (L k)),SI (M.Sc.a (L k)),SI (M.Sc.b (L k))])]] (.sl 5 N (fun k=>[SI (M.Sc.k (L k)),SI (M.Sc.c (L k)),SI (M.Sc.q (L k)),SI (M.Sc.a (L k)),SI (M.Sc.b (L k))])) [.cells [SI (M.Gd.w g),SI (M.Gd.h g),SI (M.Gd.s g),SI (M.Gd.v0 g),SI (M.Gd.v1 g),SI (M.Gd.d0 g),SI (M.Gd.d1 g),SI (M.Gd.r g),.sl 1 ns (fun k=>[SI (x k)]),SI f,.bool true,.sl 5 n (fun k=>[SI (M.Sc.k (S k)),SI (M.Sc.c (S k)),SI (M.Sc.q (S k)),SI (M.Sc.a (S k)),SI (M.Sc.b (S k))]),.sl 6 m (fun k=>[SI (M.Pk.k (P k)),SI (M.Pk.s (P k)),SI (M.Pk.t0 (P k)),SI (M.Pk.t1 (P k)),SI (M.Pk.l0 (P k)),SI (M.Pk.l1 (P k))]),.sl 5 N (fun k=>[SI (M.Sc.k (L k)),SI (M.Sc.c (L k)),SI (M.Sc.q (L k)),SI (M.Sc.a (L k)),SI (M.Sc.b (L k))])]]=Rr51 g ns x n S m P f N L:=by kernel_rfl
theorem br51 (g:M.Gd) (ns:Nat) (x:Nat→Int) (n:Nat) (S:Nat→M.Sc) (m:Nat) (P:Nat→M.Pk) (f:Int) (N:Nat) (L:Nat→M.Sc) (hp:(N≤100000)∧AllP []):Rr51 g ns x n S m P f N L:=by
 unfold Rr51
 dsimp -iota -proj -eta -zeta only
 simp
 exact (id hp).1
theorem s51:SpecOK PP 51 e51:=by
 intro xs Hs ps res Hs1 h hp
 unfold e51 at h
 split at h
 ·rename_i g_w g_h g_s g_v0 g_v1 g_d0 g_d1 g_r ns g_1 f n g_2 m g_3 N g_4
  cases h
  simp only [AllP.cons] at hp
  obtain ⟨Hg_1,Hg_2,Hg_3,Hg_4,hp⟩:=hp
  exact Spec.blocks (enterBH (Hold.of (r51 (M.Gd.mk g_w g_h g_s g_v0 g_v1 g_d0 g_d1 g_r) ns (cI g_1 0) n (fun i=>M.Sc.mk (cI g_2 0 i) (cI g_2 1 i) (cI g_2 2 i) (cI g_2 3 i) (cI g_2 4 i)) m (fun i=>M.Pk.mk (cI g_3 0 i) (cI g_3 1 i) (cI g_3 2 i) (cI g_3 3 i) (cI g_3 4 i) (cI g_3 5 i)) f N (fun i=>M.Sc.mk (cI g_4 0 i) (cI g_4 1 i) (cI g_4 2 i) (cI g_4 3 i) (cI g_4 4 i))) (br51 (M.Gd.mk g_w g_h g_s g_v0 g_v1 g_d0 g_d1 g_r) ns (cI g_1 0) n (fun i=>M.Sc.mk (cI g_2 0 i) (cI g_2 1 i) (cI g_2 2 i) (cI g_2 3 i) (cI g_2 4 i)) m (fun i=>M.Pk.mk (cI g_3 0 i) (cI g_3 1 i) (cI g_3 2 i) (cI g_3 3 i) (cI g_3 4 i) (cI g_3 5 i)) f N (fun i=>M.Sc.mk (cI g_4 0 i) (cI g_4 1 i) (cI g_4 2 i) (cI g_4 3 i) (cI g_4 4 i)) hp)) (.nil) (.cons (specE_ok s86) (.cons (pureE_ok s85) (.nil))) (k:=51) (by kernel_rfl) (by kernel_rfl) rfl (fun _=>.nil)) (.cells (.cons (.refl _) (.cons (.refl _) (.cons (.refl _) (.cons (.refl _) (.cons (.refl _) (.cons (.refl _) (.cons (.refl _) (.cons (.refl _) (.cons (.row Hg_1 fun _=>rfl) (.cons (.refl _) (.cons (.refl _) (.cons (.row Hg_2 fun _=>rfl) (.cons (.row Hg_3 fun _=>rfl) (.cons (.row Hg_4 fun _=>rfl) .nil)))))))))))))) .nil)
 ·cases h
def e47:EntB
 | [.ptr 0 0],[.cells [.int .i64 g_w,.int .i64 g_h,.int .i64 g_s,.int .i64 g_v0,.int .i64 g_v1,.int .i64 g_d0,.int .i64 g_d1,.int .i64 g_r,.sl 1 ns g_1,.int .i64 f,.bool true,.sl 5 n g_2,.sl 6 m g_3,.sl 5 N g_4]]=>some ([Row 1 ns g_1,Row 5 n g_2,Row 6 m g_3,Row 5 N g_4],.ptr 1 0,[.cells [SI (M.Gd.w (M.Gd.mk g_w g_h g_s g_v0 g_v1 g_d0 g_d1 g_r)),SI (M.Gd.h (M.Gd.mk g_w g_h g_s g_v0 g_v1 g_d0 g_d1 g_r)),SI (M.Gd.s (M.Gd.mk g_w g_h g_s g_v0 g_v1 g_d0 g_d1 g_r)),SI (M.Gd.v0 (M.Gd.mk g_w g_h g_s g_v0 g_v1 g_d0 g_d1 g_r)),SI (M.Gd.v1 (M.Gd.mk g_w g_h g_s g_v0 g_v1 g_d0 g_d1 g_r)),SI (M.Gd.d0 (M.Gd.mk g_w g_h g_s g_v0 g_v1 g_d0 g_d1 g_r)),SI (M.Gd.d1 (M.Gd.mk g_w g_h g_s g_v0 g_v1 g_d0 g_d1 g_r)),SI (M.Gd.r (M.Gd.mk g_w g_h g_s g_v0 g_v1 g_d0 g_d1 g_r)),.sl 1 ns (fun k=>[SI ((cI g_1 0) k)]),SI f,.bool true,.sl 5 n (fun k=>[SI (M.Sc.k ((fun i=>M.Sc.mk (cI g_2 0 i) (cI g_2 1 i) (cI g_2 2 i) (cI g_2 3 i) (cI g_2 4 i)) k)),SI (M.Sc.c ((fun i=>M.Sc.mk (cI g_2 0 i) (cI g_2 1 i) (cI g_2 2 i) (cI g_2 3 i) (cI g_2 4 i)) k)),SI (M.Sc.q ((fun i=>M.Sc.mk (cI g_2 0 i) (cI g_2 1 i) (cI g_2 2 i) (cI g_2 3 i) (cI g_2 4 i)) k)),SI (M.Sc.a ((fun i=>M.Sc.mk (cI g_2 0 i) (cI g_2 1 i) (cI g_2 2 i) (cI g_2 3 i) (cI g_2 4 i)) k)),SI (M.Sc.b ((fun i=>M.Sc.mk (cI g_2 0 i) (cI g_2 1 i) (cI g_2 2 i) (cI g_2 3 i) (cI g_2 4 i)) k))]),.sl 6 m (fun k=>[SI (M.Pk.k ((fun i=>M.Pk.mk (cI g_3 0 i) (cI g_3 1 i) (cI g_3 2 i) (cI g_3 3 i) (cI g_3 4 i) (cI g_3 5 i)) k)),SI (M.Pk.s ((fun i=>M.Pk.mk (cI g_3 0 i) (cI g_3 1 i) (cI g_3 2 i) (cI g_3 3 i) (cI g_3 4 i) (cI g_3 5 i)) k)),SI (M.Pk.t0 ((fun i=>M.Pk.mk (cI g_3 0 i) (cI g_3 1 i) (cI g_3 2 i) (cI g_3 3 i) (cI g_3 4 i) (cI g_3 5 i)) k)),SI (M.Pk.t1 ((fun i=>M.Pk.mk (cI g_3 0 i) (cI g_3 1 i) (cI g_3 2 i) (cI g_3 3 i) (cI g_3 4 i) (cI g_3 5 i)) k)),SI (M.Pk.l0 ((fun i=>M.Pk.mk (cI g_3 0 i) (cI g_3 1 i) (cI g_3 2 i) (cI g_3 3 i) (cI g_3 4 i) (cI g_3 5 i)) k)),SI (M.Pk.l1 ((fun i=>M.Pk.mk (cI g_3 0 i) (cI g_3 1 i) (cI g_3 2 i) (cI g_3 3 i) (cI g_3 4 i) (cI g_3 5 i)) k))]),.sl 5 N (fun k=>[SI (M.Sc.k ((fun i=>M.Sc.mk (cI g_4 0 i) (cI g_4 1 i) (cI g_4 2 i) (cI g_4 3 i) (cI g_4 4 i)) k)),SI (M.Sc.c ((fun i=>M.Sc.mk (cI g_4 0 i) (cI g_4 1 i) (cI g_4 2 i) (cI g_4 3 i) (cI g_4 4 i)) k)),SI (M.Sc.q ((fun i=>M.Sc.mk (cI g_4 0 i) (cI g_4 1 i) (cI g_4 2 i) (cI g_4 3 i) (cI g_4 4 i)) k)),SI (M.Sc.a ((fun i=>M.Sc.mk (cI g_4 0 i) (cI g_4 1 i) (cI g_4 2 i) (cI g_4 3 i) (cI g_4 4 i)) k)),SI (M.Sc.b ((fun i=>M.Sc.mk (cI g_4 0 i) (cI g_4 1 i) (cI g_4 2 i) (cI g_4 3 i) (cI g_4 4 i)) k))])],.cells [SI (M.Gd.w (M.Gd.mk g_w g_h g_s g_v0 g_v1 g_d0 g_d1 g_r)),SI (M.Gd.h (M.Gd.mk g_w g_h g_s g_v0 g_v1 g_d0 g_d1 g_r)),SI (M.Gd.s (M.Gd.mk g_w g_h g_s g_v0 g_v1 g_d0 g_d1 g_r)),SI (M.Gd.v0 (M.Gd.mk g_w g_h g_s g_v0 g_v1 g_d0 g_d1 g_r)),SI (M.Gd.v1 (M.Gd.mk g_w g_h g_s g_v0 g_v1 g_d0 g_d1 g_r)),SI (M.Gd.d0 (M.Gd.mk g_w g_h g_s g_v0 g_v1 g_d0 g_d1 g_r)),SI (M.Gd.d1 (M.Gd.mk g_w g_h g_s g_v0 g_v1 g_d0 g_d1 g_r)),SI (M.Gd.r (M.Gd.mk g_w g_h g_s g_v0 g_v1 g_d0 g_d1 g_r)),.sl 1 ns (fun k=>[SI ((cI g_1 0) k)]),SI f,.bool true,.sl 5 n (fun k=>[SI (M.Sc.k ((fun i=>M.Sc.mk (cI g_2 0 i) (cI g_2 1 i) (cI g_2 2 i) (cI g_2 3 i) (cI g_2 4 i)) k)),SI (M.Sc.c ((fun i=>M.Sc.mk (cI g_2 0 i) (cI g_2 1 i) (cI g_2 2 i) (cI g_2 3 i) (cI g_2 4 i)) k)),SI (M.Sc.q ((fun i=>M.Sc.mk (cI g_2 0 i) (cI g_2 1 i) (cI g_2 2 i) (cI g_2 3 i) (cI g_2 4 i)) k)),SI (M.Sc.a ((fun i=>M.Sc.mk (cI g_2 0 i) (cI g_2 1 i) (cI g_2 2 i) (cI g_2 3 i) (cI g_2 4 i)) k)),SI (M.Sc.b ((fun i=>M.Sc.mk (cI g_2 0 i) (cI g_2 1 i) (cI g_2 2 i) (cI g_2 3 i) (cI g_2 4 i)) k))]),.sl 6 m (fun k=>[SI (M.Pk.k ((fun i=>M.Pk.mk (cI g_3 0 i) (cI g_3 1 i) (cI g_3 2 i) (cI g_3 3 i) (cI g_3 4 i) (cI g_3 5 i)) k)),SI (M.Pk.s ((fun i=>M.Pk.mk (cI g_3 0 i) (cI g_3 1 i) (cI g_3 2 i) (cI g_3 3 i) (cI g_3 4 i) (cI g_3 5 i)) k)),SI (M.Pk.t0 ((fun i=>M.Pk.mk (cI g_3 0 i) (cI g_3 1 i) (cI g_3 2 i) (cI g_3 3 i) (cI g_3 4 i) (cI g_3 5 i)) k)),SI (M.Pk.t1 ((fun i=>M.Pk.mk (cI g_3 0 i) (cI g_3 1 i) (cI g_3 2 i) (cI g_3 3 i) (cI g_3 4 i) (cI g_3 5 i)) k)),SI (M.Pk.l0 ((fun i=>M.Pk.mk (cI g_3 0 i) (cI g_3 1 i) (cI g_3 2 i) (cI g_3 3 i) (cI g_3 4 i) (cI g_3 5 i)) k)),SI (M.Pk.l1 ((fun i=>M.Pk.mk (cI g_3 0 i) (cI g_3 1 i) (cI g_3 2 i) (cI g_3 3 i) (cI g_3 4 i) (cI g_3 5 i)) k))]),.sl 5 N (fun k=>[SI (M.Sc.k ((fun i=>M.Sc.mk (cI g_4 0 i) (cI g_4 1 i) (cI g_4 2 i) (cI g_4 3 i) (cI g_4 4 i)) k)),SI (M.Sc.c ((fun i=>M.Sc.mk (cI g_4 0 i) (cI g_4 1 i) (cI g_4 2 i) (cI g_4 3 i) (cI g_4 4 i)) k)),SI (M.Sc.q ((fun i=>M.Sc.mk (cI g_4 0 i) (cI g_4 1 i) (cI g_4 2 i) (cI g_4 3 i) (cI g_4 4 i)) k)),SI (M.Sc.a ((fun i=>M.Sc.mk (cI g_4 0 i) (cI g_4 1 i) (cI g_4 2 i) (cI g_4 3 i) (cI g_4 4 i)) k)),SI (M.Sc.b ((fun i=>M.Sc.mk (cI g_4 0 i) (cI g_4 1 i) (cI g_4 2 i) (cI g_4 3 i) (cI g_4 4 i)) k))])]])
 | _,_=>none
def Rr47 (g:M.Gd) (ns:Nat) (x:Nat→Int) (n:Nat) (S:Nat→M.Sc) (m:Nat) (P:Nat→M.Pk) (f:Int) (N:Nat) (L:Nat→M.Sc):Prop:=(fun (z0 z1 z2 z3:Prop)=>z3∧z1∧z0∧z2∧((!true)=true→False)∧((!true)=false→g.w=g.w∧g.h=g.h∧g.s=g.s∧g.v0=g.v0∧g.v1=g.v1∧g.d0=g.d0∧g.d1=g.d1∧g.r=g.r∧(ns=ns∧z3)∧f=f∧true=true∧(n=n∧z1)∧(m=m∧z0)∧(N=N∧z2)∧g.w=g.w∧g.h=g.h∧g.s=g.s∧g.v0=g.v0∧g.v1=g.v1∧g.d0=g.d0∧g.d1=g.d1∧g.r=g.r∧(ns=ns∧z3)∧f=f∧true=true∧(n=n∧z1)∧(m=m∧z0)∧(N=N∧z2)∧True)) (∀ (k:Nat),k<m→(P k).k=(P k).k∧(P k).s=(P k).s∧(P k).t0=(P k).t0∧(P k).t1=(P k).t1∧(P k).l0=(P k).l0∧(P k).l1=(P k).l1) (∀ (k:Nat),k<n→(S k).k=(S k).k∧(S k).c=(S k).c∧(S k).q=(S k).q∧(S k).a=(S k).a∧(S k).b=(S k).b) (∀ (k:Nat),k<N→(L k).k=(L k).k∧(L k).c=(L k).c∧(L k).q=(L k).q∧(L k).a=(L k).a∧(L k).b=(L k).b) (∀ (k:Nat),k<ns→x k=x k)
theorem r47 (g:M.Gd) (ns:Nat) (x:Nat→Int) (n:Nat) (S:Nat→M.Sc) (m:Nat) (P:Nat→M.Pk) (f:Int) (N:Nat) (L:Nat→M.Sc):VN true [] [(86,specE e86)] Try.f47 [0,2,3,6] [] [.ptr 0 0] [.cells [SI (M.Gd.w g),SI (M.Gd.h g),SI (M.Gd.s g),SI (M.Gd.v0 g),SI (M.Gd.v1 g),SI (M.Gd.d0 g),SI (M.Gd.d1 g),SI (M.Gd.r g),.sl 1 ns (fun k=>[SI (x k)]),SI f,.bool true,.sl 5 n (fun k=>[SI (M.Sc.k (S k)),SI (M.Sc.c (S k)),SI (M.Sc.q (S k)),SI (M.Sc.a (S k)),SI (M.Sc.b (S k))]),.sl 6 m (fun k=>[SI (M.Pk.k (P k)),SI (M.Pk.s (P k)),SI (M.Pk.t0 (P k)),SI (M.Pk.t1 (P k)),SI (M.Pk.l0 (P k)),SI (M.Pk.l1 (P k))]),.sl 5 N (fun k=>[SI (M.Sc.k (L k)),SI (M.Sc.c (L k)),SI (M.Sc.q (L k)),SI (M.Sc.a (L k)),SI (M.Sc.b (L k))])]] (.ptr 1 0) [.cells [SI (M.Gd.w g),SI (M.Gd.h g),SI (M.Gd.s g),SI (M.Gd.v0 g),SI (M.Gd.v1 g),SI (M.Gd.d0 g),SI (M.Gd.d1 g),SI (M.Gd.r g),.sl 1 ns (fun k=>[SI (x k)]),SI f,.bool true,.sl 5 n (fun k=>[SI (M.Sc.k (S k)),SI (M.Sc.c (S k)),SI (M.Sc.q (S k)),SI (M.Sc.a (S k)),SI (M.Sc.b (S k))]),.sl 6 m (fun k=>[SI (M.Pk.k (P k)),SI (M.Pk.s (P k)),SI (M.Pk.t0 (P k)),SI (M.Pk.t1 (P k)),SI (M.Pk.l0 (P k)),SI (M.Pk.l1 (P k))]),.sl 5 N (fun k=>[SI (M.Sc.k (L k)),SI (M.Sc.c (L k)),SI (M.Sc.q (L k)),SI (M.Sc.a (L k)),SI (M.Sc.b (L k))])],.cells [SI (M.Gd.w g),SI (M.Gd.h g),SI (M.Gd.s g),SI (M.Gd.v0 g),SI (M.Gd.v1 g),SI (M.Gd.d0 g),SI (M.Gd.d1 g),SI (M.Gd.r g),.sl 1 ns (fun k=>[SI (x k)]),SI f,.bool true,.sl 5 n (fun k=>[SI (M.Sc.k (S k)),SI (M.Sc.c (S k)),SI (M.Sc.q (S k)),SI (M.Sc.a (S k)),SI (M.Sc.b (S k))]),.sl 6 m (fun k=>[SI (M.Pk.k (P k)),SI (M.Pk.s (P k)),SI (M.Pk.t0 (P k)),SI (M.Pk.t1 (P k)),SI (M.Pk.l0 (P k)),SI (M.Pk.l1 (P k))]),.sl 5 N (fun k=>[SI (M.Sc.k (L k)),SI (M.Sc.c (L k)),SI (M.Sc.q (L k)),SI (M.Sc.a (L k)),SI (M.Sc.b (L k))])]]=Rr47 g ns x n S m P f N L:=by kernel_rfl
theorem br47 (g:M.Gd) (ns:Nat) (x:Nat→Int) (n:Nat) (S:Nat→M.Sc) (m:Nat) (P:Nat→M.Pk) (f:Int) (N:Nat) (L:Nat→M.Sc)  : Rr47 g ns x n S m P f N L:=by
 unfold Rr47
 dsimp -iota -proj -eta -zeta only
 simp
theorem s47:SpecOK PP 47 e47:=by
 intro xs Hs ps res Hs1 h hp
 unfold e47 at h
 split at h
 ·rename_i g_w g_h g_s g_v0 g_v1 g_d0 g_d1 g_r ns g_1 f n g_2 m g_3 N g_4
  cases h
  simp only [AllP.cons] at hp
  obtain ⟨Hg_1,Hg_2,Hg_3,Hg_4,hp⟩:=hp
  exact Spec.blocks (enterNH (Hold.of (r47 (M.Gd.mk g_w g_h g_s g_v0 g_v1 g_d0 g_d1 g_r) ns (cI g_1 0) n (fun i=>M.Sc.mk (cI g_2 0 i) (cI g_2 1 i) (cI g_2 2 i) (cI g_2 3 i) (cI g_2 4 i)) m (fun i=>M.Pk.mk (cI g_3 0 i) (cI g_3 1 i) (cI g_3 2 i) (cI g_3 3 i) (cI g_3 4 i) (cI g_3 5 i)) f N (fun i=>M.Sc.mk (cI g_4 0 i) (cI g_4 1 i) (cI g_4 2 i) (cI g_4 3 i) (cI g_4 4 i))) (br47 (M.Gd.mk g_w g_h g_s g_v0 g_v1 g_d0 g_d1 g_r) ns (cI g_1 0) n (fun i=>M.Sc.mk (cI g_2 0 i) (cI g_2 1 i) (cI g_2 2 i) (cI g_2 3 i) (cI g_2 4 i)) m (fun i=>M.Pk.mk (cI g_3 0 i) (cI g_3 1 i) (cI g_3 2 i) (cI g_3 3 i) (cI g_3 4 i) (cI g_3 5 i)) f N (fun i=>M.Sc.mk (cI g_4 0 i) (cI g_4 1 i) (cI g_4 2 i) (cI g_4 3 i) (cI g_4 4 i)) )) (.nil) (.cons (specE_ok s86) (.nil)) (k:=47) (by kernel_rfl) (by kernel_rfl) rfl (fun _=>.nil)) (.cells (.cons (.refl _) (.cons (.refl _) (.cons (.refl _) (.cons (.refl _) (.cons (.refl _) (.cons (.refl _) (.cons (.refl _) (.cons (.refl _) (.cons (.row Hg_1 fun _=>rfl) (.cons (.refl _) (.cons (.refl _) (.cons (.row Hg_2 fun _=>rfl) (.cons (.row Hg_3 fun _=>rfl) (.cons (.row Hg_4 fun _=>rfl) .nil)))))))))))))) .nil)
 ·cases h
def e60s:List SV→Option (List Prop × SV)
 | [.agg [.int .i64 g_w,.int .i64 g_h,.int .i64 g_s,.int .i64 g_v0,.int .i64 g_v1,.int .i64 g_d0,.int .i64 g_d1,.int .i64 g_r,.sl 1 ns g_1,.int .i64 f],.sl 5 n g_2,.sl 6 m g_3]=>some ([Row 1 ns g_1,Row 5 n g_2,Row 6 m g_3,M.Gd.Ck (M.Gd.mk g_w g_h g_s g_v0 g_v1 g_d0 g_d1 g_r) ns (cI g_1 0) n (fun i=>M.Sc.mk (cI g_2 0 i) (cI g_2 1 i) (cI g_2 2 i) (cI g_2 3 i) (cI g_2 4 i)) m (fun i=>M.Pk.mk (cI g_3 0 i) (cI g_3 1 i) (cI g_3 2 i) (cI g_3 3 i) (cI g_3 4 i) (cI g_3 5 i)) f],.sl 5 (M.Gd.leN (M.Gd.mk g_w g_h g_s g_v0 g_v1 g_d0 g_d1 g_r) (cI g_1 0) (fun i=>M.Sc.mk (cI g_2 0 i) (cI g_2 1 i) (cI g_2 2 i) (cI g_2 3 i) (cI g_2 4 i)) m (fun i=>M.Pk.mk (cI g_3 0 i) (cI g_3 1 i) (cI g_3 2 i) (cI g_3 3 i) (cI g_3 4 i) (cI g_3 5 i)) f n) (fun k=>[SI (M.Gd.leR (M.Gd.mk g_w g_h g_s g_v0 g_v1 g_d0 g_d1 g_r) (cI g_1 0) (fun i=>M.Sc.mk (cI g_2 0 i) (cI g_2 1 i) (cI g_2 2 i) (cI g_2 3 i) (cI g_2 4 i)) m (fun i=>M.Pk.mk (cI g_3 0 i) (cI g_3 1 i) (cI g_3 2 i) (cI g_3 3 i) (cI g_3 4 i) (cI g_3 5 i)) f n k).k,SI (M.Gd.leR (M.Gd.mk g_w g_h g_s g_v0 g_v1 g_d0 g_d1 g_r) (cI g_1 0) (fun i=>M.Sc.mk (cI g_2 0 i) (cI g_2 1 i) (cI g_2 2 i) (cI g_2 3 i) (cI g_2 4 i)) m (fun i=>M.Pk.mk (cI g_3 0 i) (cI g_3 1 i) (cI g_3 2 i) (cI g_3 3 i) (cI g_3 4 i) (cI g_3 5 i)) f n k).c,SI (M.Gd.leR (M.Gd.mk g_w g_h g_s g_v0 g_v1 g_d0 g_d1 g_r) (cI g_1 0) (fun i=>M.Sc.mk (cI g_2 0 i) (cI g_2 1 i) (cI g_2 2 i) (cI g_2 3 i) (cI g_2 4 i)) m (fun i=>M.Pk.mk (cI g_3 0 i) (cI g_3 1 i) (cI g_3 2 i) (cI g_3 3 i) (cI g_3 4 i) (cI g_3 5 i)) f n k).q,SI (M.Gd.leR (M.Gd.mk g_w g_h g_s g_v0 g_v1 g_d0 g_d1 g_r) (cI g_1 0) (fun i=>M.Sc.mk (cI g_2 0 i) (cI g_2 1 i) (cI g_2 2 i) (cI g_2 3 i) (cI g_2 4 i)) m (fun i=>M.Pk.mk (cI g_3 0 i) (cI g_3 1 i) (cI g_3 2 i) (cI g_3 3 i) (cI g_3 4 i) (cI g_3 5 i)) f n k).a,SI (M.Gd.leR (M.Gd.mk g_w g_h g_s g_v0 g_v1 g_d0 g_d1 g_r) (cI g_1 0) (fun i=>M.Sc.mk (cI g_2 0 i) (cI g_2 1 i) (cI g_2 2 i) (cI g_2 3 i) (cI g_2 4 i)) m (fun i=>M.Pk.mk (cI g_3 0 i) (cI g_3 1 i) (cI g_3 2 i) (cI g_3 3 i) (cI g_3 4 i) (cI g_3 5 i)) f n k).b]))
 | _=>none
theorem s60s:PureOK PP 60 e60s:=by
 intro xs ps res h hp
 unfold e60s at h
 split at h
 ·rename_i g_w g_h g_s g_v0 g_v1 g_d0 g_d1 g_r ns g_1 f n g_2 m g_3
  cases h
  simp only [AllP.cons] at hp
  obtain ⟨Hg_1,Hg_2,Hg_3,hp⟩:=hp
  have h6:=s60 [.agg [.int .i64 g_w,.int .i64 g_h,.int .i64 g_s,.int .i64 g_v0,.int .i64 g_v1,.int .i64 g_d0,.int .i64 g_d1,.int .i64 g_r,.sl 1 ns g_1,.int .i64 f],.sl 5 n g_2,.sl 6 m g_3] _ _ rfl (AllP.cons.2 ⟨Hg_1,(AllP.cons.2 ⟨Hg_2,(AllP.cons.2 ⟨Hg_3,(AllP.cons.2 ⟨(hp.1),AllP.nil⟩)⟩)⟩)⟩)
  exact h6
 ·cases h
--#def PR(T) (fun k => [SI (M.Pk.k ($T k)), SI (M.Pk.s ($T k)), SI (M.Pk.t0 ($T k)), SI (M.Pk.t1 ($T k)), SI (M.Pk.l0 ($T k)), SI (M.Pk.l1 ($T k))])
def e48:EntB
 | [.ptr 0 0,.agg [.int .i64 p_k,.int .i64 p_s,.int .i64 p_t0,.int .i64 p_t1,.int .i64 p_l0,.int .i64 p_l1]],[.cells [.int .i64 g_w,.int .i64 g_h,.int .i64 g_s,.int .i64 g_v0,.int .i64 g_v1,.int .i64 g_d0,.int .i64 g_d1,.int .i64 g_r,.sl 1 ns g_1,.int .i64 f,.bool true,.sl 5 n g_2,.sl 6 m g_3,.sl 5 N g_4]]=>some ([Row 1 ns g_1,Row 5 n g_2,Row 6 m g_3,Row 5 N g_4,M.Gd.Ck (M.Gd.mk g_w g_h g_s g_v0 g_v1 g_d0 g_d1 g_r) ns (cI g_1 0) n (fun i=>M.Sc.mk (cI g_2 0 i) (cI g_2 1 i) (cI g_2 2 i) (cI g_2 3 i) (cI g_2 4 i)) m (fun i=>M.Pk.mk (cI g_3 0 i) (cI g_3 1 i) (cI g_3 2 i) (cI g_3 3 i) (cI g_3 4 i) (cI g_3 5 i)) f,N=M.Gd.leN (M.Gd.mk g_w g_h g_s g_v0 g_v1 g_d0 g_d1 g_r) (cI g_1 0) (fun i=>M.Sc.mk (cI g_2 0 i) (cI g_2 1 i) (cI g_2 2 i) (cI g_2 3 i) (cI g_2 4 i)) m (fun i=>M.Pk.mk (cI g_3 0 i) (cI g_3 1 i) (cI g_3 2 i) (cI g_3 3 i) (cI g_3 4 i) (cI g_3 5 i)) f n,∀ k,k<N→(fun i=>M.Sc.mk (cI g_4 0 i) (cI g_4 1 i) (cI g_4 2 i) (cI g_4 3 i) (cI g_4 4 i)) k=M.Gd.leR (M.Gd.mk g_w g_h g_s g_v0 g_v1 g_d0 g_d1 g_r) (cI g_1 0) (fun i=>M.Sc.mk (cI g_2 0 i) (cI g_2 1 i) (cI g_2 2 i) (cI g_2 3 i) (cI g_2 4 i)) m (fun i=>M.Pk.mk (cI g_3 0 i) (cI g_3 1 i) (cI g_3 2 i) (cI g_3 3 i) (cI g_3 4 i) (cI g_3 5 i)) f n k],.tup [SI (if M.adE ns m (M.Pk.mk p_k p_s p_t0 p_t1 p_l0 p_l1)=0 then (N:Int)-M.Gd.leN (M.Gd.mk g_w g_h g_s g_v0 g_v1 g_d0 g_d1 g_r) (cI g_1 0) (fun i=>M.Sc.mk (cI g_2 0 i) (cI g_2 1 i) (cI g_2 2 i) (cI g_2 3 i) (cI g_2 4 i)) (m+1) (M.snP m (fun i=>M.Pk.mk (cI g_3 0 i) (cI g_3 1 i) (cI g_3 2 i) (cI g_3 3 i) (cI g_3 4 i) (cI g_3 5 i)) (M.Pk.mk p_k p_s p_t0 p_t1 p_l0 p_l1)) f n else 0),SI (M.adE ns m (M.Pk.mk p_k p_s p_t0 p_t1 p_l0 p_l1))],[.cells [SI (M.Gd.w (M.Gd.mk g_w g_h g_s g_v0 g_v1 g_d0 g_d1 g_r)),SI (M.Gd.h (M.Gd.mk g_w g_h g_s g_v0 g_v1 g_d0 g_d1 g_r)),SI (M.Gd.s (M.Gd.mk g_w g_h g_s g_v0 g_v1 g_d0 g_d1 g_r)),SI (M.Gd.v0 (M.Gd.mk g_w g_h g_s g_v0 g_v1 g_d0 g_d1 g_r)),SI (M.Gd.v1 (M.Gd.mk g_w g_h g_s g_v0 g_v1 g_d0 g_d1 g_r)),SI (M.Gd.d0 (M.Gd.mk g_w g_h g_s g_v0 g_v1 g_d0 g_d1 g_r)),SI (M.Gd.d1 (M.Gd.mk g_w g_h g_s g_v0 g_v1 g_d0 g_d1 g_r)),SI (M.Gd.r (M.Gd.mk g_w g_h g_s g_v0 g_v1 g_d0 g_d1 g_r)),.sl 1 ns (fun k=>[SI ((cI g_1 0) k)]),SI f,.bool true,.sl 5 n (fun k=>[SI (M.Sc.k ((fun i=>M.Sc.mk (cI g_2 0 i) (cI g_2 1 i) (cI g_2 2 i) (cI g_2 3 i) (cI g_2 4 i)) k)),SI (M.Sc.c ((fun i=>M.Sc.mk (cI g_2 0 i) (cI g_2 1 i) (cI g_2 2 i) (cI g_2 3 i) (cI g_2 4 i)) k)),SI (M.Sc.q ((fun i=>M.Sc.mk (cI g_2 0 i) (cI g_2 1 i) (cI g_2 2 i) (cI g_2 3 i) (cI g_2 4 i)) k)),SI (M.Sc.a ((fun i=>M.Sc.mk (cI g_2 0 i) (cI g_2 1 i) (cI g_2 2 i) (cI g_2 3 i) (cI g_2 4 i)) k)),SI (M.Sc.b ((fun i=>M.Sc.mk (cI g_2 0 i) (cI g_2 1 i) (cI g_2 2 i) (cI g_2 3 i) (cI g_2 4 i)) k))]),.sl 6 (M.adM ns m (M.Pk.mk p_k p_s p_t0 p_t1 p_l0 p_l1)) (fun k=>[SI (M.Pk.k ((M.snP m (fun i=>M.Pk.mk (cI g_3 0 i) (cI g_3 1 i) (cI g_3 2 i) (cI g_3 3 i) (cI g_3 4 i) (cI g_3 5 i)) (M.Pk.mk p_k p_s p_t0 p_t1 p_l0 p_l1)) k)),SI (M.Pk.s ((M.snP m (fun i=>M.Pk.mk (cI g_3 0 i) (cI g_3 1 i) (cI g_3 2 i) (cI g_3 3 i) (cI g_3 4 i) (cI g_3 5 i)) (M.Pk.mk p_k p_s p_t0 p_t1 p_l0 p_l1)) k)),SI (M.Pk.t0 ((M.snP m (fun i=>M.Pk.mk (cI g_3 0 i) (cI g_3 1 i) (cI g_3 2 i) (cI g_3 3 i) (cI g_3 4 i) (cI g_3 5 i)) (M.Pk.mk p_k p_s p_t0 p_t1 p_l0 p_l1)) k)),SI (M.Pk.t1 ((M.snP m (fun i=>M.Pk.mk (cI g_3 0 i) (cI g_3 1 i) (cI g_3 2 i) (cI g_3 3 i) (cI g_3 4 i) (cI g_3 5 i)) (M.Pk.mk p_k p_s p_t0 p_t1 p_l0 p_l1)) k)),SI (M.Pk.l0 ((M.snP m (fun i=>M.Pk.mk (cI g_3 0 i) (cI g_3 1 i) (cI g_3 2 i) (cI g_3 3 i) (cI g_3 4 i) (cI g_3 5 i)) (M.Pk.mk p_k p_s p_t0 p_t1 p_l0 p_l1)) k)),SI (M.Pk.l1 ((M.snP m (fun i=>M.Pk.mk (cI g_3 0 i) (cI g_3 1 i) (cI g_3 2 i) (cI g_3 3 i) (cI g_3 4 i) (cI g_3 5 i)) (M.Pk.mk p_k p_s p_t0 p_t1 p_l0 p_l1)) k))]),.sl 5 (M.Gd.leN (M.Gd.mk g_w g_h g_s g_v0 g_v1 g_d0 g_d1 g_r) (cI g_1 0) (fun i=>M.Sc.mk (cI g_2 0 i) (cI g_2 1 i) (cI g_2 2 i) (cI g_2 3 i) (cI g_2 4 i)) (M.adM ns m (M.Pk.mk p_k p_s p_t0 p_t1 p_l0 p_l1)) (M.snP m (fun i=>M.Pk.mk (cI g_3 0 i) (cI g_3 1 i) (cI g_3 2 i) (cI g_3 3 i) (cI g_3 4 i) (cI g_3 5 i)) (M.Pk.mk p_k p_s p_t0 p_t1 p_l0 p_l1)) f n) (fun k=>[SI (M.Sc.k (M.Gd.leR (M.Gd.mk g_w g_h g_s g_v0 g_v1 g_d0 g_d1 g_r) (cI g_1 0) (fun i=>M.Sc.mk (cI g_2 0 i) (cI g_2 1 i) (cI g_2 2 i) (cI g_2 3 i) (cI g_2 4 i)) (M.adM ns m (M.Pk.mk p_k p_s p_t0 p_t1 p_l0 p_l1)) (M.snP m (fun i=>M.Pk.mk (cI g_3 0 i) (cI g_3 1 i) (cI g_3 2 i) (cI g_3 3 i) (cI g_3 4 i) (cI g_3 5 i)) (M.Pk.mk p_k p_s p_t0 p_t1 p_l0 p_l1)) f n k)),SI (M.Sc.c (M.Gd.leR (M.Gd.mk g_w g_h g_s g_v0 g_v1 g_d0 g_d1 g_r) (cI g_1 0) (fun i=>M.Sc.mk (cI g_2 0 i) (cI g_2 1 i) (cI g_2 2 i) (cI g_2 3 i) (cI g_2 4 i)) (M.adM ns m (M.Pk.mk p_k p_s p_t0 p_t1 p_l0 p_l1)) (M.snP m (fun i=>M.Pk.mk (cI g_3 0 i) (cI g_3 1 i) (cI g_3 2 i) (cI g_3 3 i) (cI g_3 4 i) (cI g_3 5 i)) (M.Pk.mk p_k p_s p_t0 p_t1 p_l0 p_l1)) f n k)),SI (M.Sc.q (M.Gd.leR (M.Gd.mk g_w g_h g_s g_v0 g_v1 g_d0 g_d1 g_r) (cI g_1 0) (fun i=>M.Sc.mk (cI g_2 0 i) (cI g_2 1 i) (cI g_2 2 i) (cI g_2 3 i) (cI g_2 4 i)) (M.adM ns m (M.Pk.mk p_k p_s p_t0 p_t1 p_l0 p_l1)) (M.snP m (fun i=>M.Pk.mk (cI g_3 0 i) (cI g_3 1 i) (cI g_3 2 i) (cI g_3 3 i) (cI g_3 4 i) (cI g_3 5 i)) (M.Pk.mk p_k p_s p_t0 p_t1 p_l0 p_l1)) f n k)),SI (M.Sc.a (M.Gd.leR (M.Gd.mk g_w g_h g_s g_v0 g_v1 g_d0 g_d1 g_r) (cI g_1 0) (fun i=>M.Sc.mk (cI g_2 0 i) (cI g_2 1 i) (cI g_2 2 i) (cI g_2 3 i) (cI g_2 4 i)) (M.adM ns m (M.Pk.mk p_k p_s p_t0 p_t1 p_l0 p_l1)) (M.snP m (fun i=>M.Pk.mk (cI g_3 0 i) (cI g_3 1 i) (cI g_3 2 i) (cI g_3 3 i) (cI g_3 4 i) (cI g_3 5 i)) (M.Pk.mk p_k p_s p_t0 p_t1 p_l0 p_l1)) f n k)),SI (M.Sc.b (M.Gd.leR (M.Gd.mk g_w g_h g_s g_v0 g_v1 g_d0 g_d1 g_r) (cI g_1 0) (fun i=>M.Sc.mk (cI g_2 0 i) (cI g_2 1 i) (cI g_2 2 i) (cI g_2 3 i) (cI g_2 4 i)) (M.adM ns m (M.Pk.mk p_k p_s p_t0 p_t1 p_l0 p_l1)) (M.snP m (fun i=>M.Pk.mk (cI g_3 0 i) (cI g_3 1 i) (cI g_3 2 i) (cI g_3 3 i) (cI g_3 4 i) (cI g_3 5 i)) (M.Pk.mk p_k p_s p_t0 p_t1 p_l0 p_l1)) f n k))])]])
 | _,_=>none
def Rr48 (g:M.Gd) (ns:Nat) (x:Nat→Int) (n:Nat) (S:Nat→M.Sc) (m:Nat) (P:Nat→M.Pk) (f:Int) (N:Nat) (L:Nat→M.Sc) (p:M.Pk):Prop:=(fun (z12:Bool) (z4 z5:Nat) (z11:Nat→M.Pk) (z3 z7 z8:Prop)=>(fun (z2:Int) (z0:Nat→M.Pk) (z6:Nat→M.Sc)=>(fun (z10:Nat) (z9:Nat→M.Sc) (z1:Prop)=>z8∧z3∧z7∧(∀ (k:Nat),k<N→(L k).k=(L k).k∧(L k).c=(L k).c∧(L k).q=(L k).q∧(L k).a=(L k).a∧(L k).b=(L k).b)∧((!true)=true→z1∧((0:Int)=z2)∧(1:Int)=M.adE ns m p)∧((!true)=false→(decide ((↑m:Int)=(64:Int))=true→z1∧((0:Int)=z2)∧(9:Int)=M.adE ns m p)∧(decide ((↑m:Int)=(64:Int))=false→z8∧ns≤(100000:Nat)∧(z12=true→z1∧((0:Int)=z2)∧M.Pk.vE ns p=M.adE ns m p)∧(z12=false→z7∧m≤(100000:Nat)∧z4+(1:Nat)≤(1:Nat)∧(∀ (k:Nat),k<(1:Nat)→true=true)∧m≤m∧z5*(48:Nat)≤(140737488355328:Nat)∧z4+z5≤z5∧z8∧z3∧(∀ (k:Nat),k<z5→((bif decide (z4+k<m) then (P (z4+k)).k else p.k)=bif decide (z4+k<m) then (P (z4+k)).k else p.k)∧((bif decide (z4+k<m) then (P (z4+k)).s else p.s)=bif decide (z4+k<m) then (P (z4+k)).s else p.s)∧((bif decide (z4+k<m) then (P (z4+k)).t0 else p.t0)=bif decide (z4+k<m) then (P (z4+k)).t0 else p.t0)∧((bif decide (z4+k<m) then (P (z4+k)).t1 else p.t1)=bif decide (z4+k<m) then (P (z4+k)).t1 else p.t1)∧((bif decide (z4+k<m) then (P (z4+k)).l0 else p.l0)=bif decide (z4+k<m) then (P (z4+k)).l0 else p.l0)∧(bif decide (z4+k<m) then (P (z4+k)).l1 else p.l1)=bif decide (z4+k<m) then (P (z4+k)).l1 else p.l1)∧M.Gd.Ck g ns x n S z5 z0 f∧R64 ((↑N:Int)-(↑z10:Int))∧(g.w=g.w∧g.h=g.h∧g.s=g.s∧g.v0=g.v0∧g.v1=g.v1∧g.d0=g.d0∧g.d1=g.d1∧g.r=g.r∧(ns=ns∧z8)∧f=f∧true=true∧(n=n∧z3)∧(z5=M.adM ns m p∧∀ (k:Nat),k<z5→(bif decide (z4+k<m) then (P (z4+k)).k else p.k)=(z11 k).k∧(bif decide (z4+k<m) then (P (z4+k)).s else p.s)=(z11 k).s∧(bif decide (z4+k<m) then (P (z4+k)).t0 else p.t0)=(z11 k).t0∧(bif decide (z4+k<m) then (P (z4+k)).t1 else p.t1)=(z11 k).t1∧(bif decide (z4+k<m) then (P (z4+k)).l0 else p.l0)=(z11 k).l0∧(bif decide (z4+k<m) then (P (z4+k)).l1 else p.l1)=(z11 k).l1)∧z10=M.Gd.leN g x S (M.adM ns m p) z11 f n∧∀ (k:Nat),k<z10→(z9 k).k=(z6 k).k∧(z9 k).c=(z6 k).c∧(z9 k).q=(z6 k).q∧(z9 k).a=(z6 k).a∧(z9 k).b=(z6 k).b)∧((↑N:Int)-(↑z10:Int)=z2)∧(0:Int)=M.adE ns m p)))) (M.Gd.leN g x S z5 z0 f n) (M.Gd.leR g x S z5 z0 f n) (g.w=g.w∧g.h=g.h∧g.s=g.s∧g.v0=g.v0∧g.v1=g.v1∧g.d0=g.d0∧g.d1=g.d1∧g.r=g.r∧(ns=ns∧z8)∧f=f∧true=true∧(n=n∧z3)∧(m=M.adM ns m p∧∀ (k:Nat),k<m→(P k).k=(z11 k).k∧(P k).s=(z11 k).s∧(P k).t0=(z11 k).t0∧(P k).t1=(z11 k).t1∧(P k).l0=(z11 k).l0∧(P k).l1=(z11 k).l1)∧N=M.Gd.leN g x S (M.adM ns m p) z11 f n∧∀ (k:Nat),k<N→(L k).k=(z6 k).k∧(L k).c=(z6 k).c∧(L k).q=(z6 k).q∧(L k).a=(z6 k).a∧(L k).b=(z6 k).b)) (if M.adE ns m p=(0:Int) then (↑N:Int)-(↑(M.Gd.leN g x S z5 z11 f n):Int) else (0:Int)) (fun i=>M.Pk.mk (bif decide (z4+i<m) then (P (z4+i)).k else p.k) (bif decide (z4+i<m) then (P (z4+i)).s else p.s) (bif decide (z4+i<m) then (P (z4+i)).t0 else p.t0) (bif decide (z4+i<m) then (P (z4+i)).t1 else p.t1) (bif decide (z4+i<m) then (P (z4+i)).l0 else p.l0) (bif decide (z4+i<m) then (P (z4+i)).l1 else p.l1)) (M.Gd.leR g x S (M.adM ns m p) z11 f n)) (!decide (M.Pk.vE ns p=(0:Int))) (0:Nat) (m+(1:Nat)) (M.snP m P p) (∀ (k:Nat),k<n→(S k).k=(S k).k∧(S k).c=(S k).c∧(S k).q=(S k).q∧(S k).a=(S k).a∧(S k).b=(S k).b) (∀ (k:Nat),k<m→(P k).k=(P k).k∧(P k).s=(P k).s∧(P k).t0=(P k).t0∧(P k).t1=(P k).t1∧(P k).l0=(P k).l0∧(P k).l1=(P k).l1) (∀ (k:Nat),k<ns→x k=x k)
theorem r48 (g:M.Gd) (ns:Nat) (x:Nat→Int) (n:Nat) (S:Nat→M.Sc) (m:Nat) (P:Nat→M.Pk) (f:Int) (N:Nat) (L:Nat→M.Sc) (p:M.Pk):VB true [] [(1000000,frzE),(86,specE e86),(87,pureE e87),(88,specE e88w),(60,pureE e60s)] Try.f48 [0,1,3,4,5,6,7,8,12,26] [] [.ptr 0 0,.agg [SI (M.Pk.k p),SI (M.Pk.s p),SI (M.Pk.t0 p),SI (M.Pk.t1 p),SI (M.Pk.l0 p),SI (M.Pk.l1 p)]] [.cells [SI (M.Gd.w g),SI (M.Gd.h g),SI (M.Gd.s g),SI (M.Gd.v0 g),SI (M.Gd.v1 g),SI (M.Gd.d0 g),SI (M.Gd.d1 g),SI (M.Gd.r g),.sl 1 ns (fun k=>[SI (x k)]),SI f,.bool true,.sl 5 n (fun k=>[SI (M.Sc.k (S k)),SI (M.Sc.c (S k)),SI (M.Sc.q (S k)),SI (M.Sc.a (S k)),SI (M.Sc.b (S k))]),.sl 6 m (fun k=>[SI (M.Pk.k (P k)),SI (M.Pk.s (P k)),SI (M.Pk.t0 (P k)),SI (M.Pk.t1 (P k)),SI (M.Pk.l0 (P k)),SI (M.Pk.l1 (P k))]),.sl 5 N (fun k=>[SI (M.Sc.k (L k)),SI (M.Sc.c (L k)),SI (M.Sc.q (L k)),SI (M.Sc.a (L k)),SI (M.Sc.b (L k))])]] (.tup [SI (if M.adE ns m p=0 then (N:Int)-M.Gd.leN g x S (m+1) (M.snP m P p) f n else 0),SI (M.adE ns m p)]) [.cells [SI (M.Gd.w g),SI (M.Gd.h g),SI (M.Gd.s g),SI (M.Gd.v0 g),SI (M.Gd.v1 g),SI (M.Gd.d0 g),SI (M.Gd.d1 g),SI (M.Gd.r g),.sl 1 ns (fun k=>[SI (x k)]),SI f,.bool true,.sl 5 n (fun k=>[SI (M.Sc.k (S k)),SI (M.Sc.c (S k)),SI (M.Sc.q (S k)),SI (M.Sc.a (S k)),SI (M.Sc.b (S k))]),.sl 6 (M.adM ns m p) (fun k=>[SI (M.Pk.k ((M.snP m P p) k)),SI (M.Pk.s ((M.snP m P p) k)),SI (M.Pk.t0 ((M.snP m P p) k)),SI (M.Pk.t1 ((M.snP m P p) k)),SI (M.Pk.l0 ((M.snP m P p) k)),SI (M.Pk.l1 ((M.snP m P p) k))]),.sl 5 (M.Gd.leN g x S (M.adM ns m p) (M.snP m P p) f n) (fun k=>[SI (M.Sc.k (M.Gd.leR g x S (M.adM ns m p) (M.snP m P p) f n k)),SI (M.Sc.c (M.Gd.leR g x S (M.adM ns m p) (M.snP m P p) f n k)),SI (M.Sc.q (M.Gd.leR g x S (M.adM ns m p) (M.snP m P p) f n k)),SI (M.Sc.a (M.Gd.leR g x S (M.adM ns m p) (M.snP m P p) f n k)),SI (M.Sc.b (M.Gd.leR g x S (M.adM ns m p) (M.snP m P p) f n k))])]]=Rr48 g ns x n S m P f N L p:=by kernel_rfl
theorem br48 (g:M.Gd) (ns:Nat) (x:Nat→Int) (n:Nat) (S:Nat→M.Sc) (m:Nat) (P:Nat→M.Pk) (f:Int) (N:Nat) (L:Nat→M.Sc) (p:M.Pk) (hp:(M.Gd.Ck g ns x n S m P f)∧(N=M.Gd.leN g x S m P f n)∧(∀ k,k<N→L k=M.Gd.leR g x S m P f n k)∧AllP []):Rr48 g ns x n S m P f N L p:=by
 unfold Rr48
 dsimp -iota -proj -eta -zeta only
 obtain ⟨hC,hN,hL,-⟩:=id hp
 obtain ⟨k1,k2,k3,⟨k4,k5⟩,k6,k7,k8⟩:=id hC
 have e3:(fun i=>M.Pk.mk (bif decide (0+i<m) then (P (0+i)).k else p.k) (bif decide (0+i<m) then (P (0+i)).s else p.s) (bif decide (0+i<m) then (P (0+i)).t0 else p.t0) (bif decide (0+i<m) then (P (0+i)).t1 else p.t1) (bif decide (0+i<m) then (P (0+i)).l0 else p.l0) (bif decide (0+i<m) then (P (0+i)).l1 else p.l1))=M.snP m P p:=by
  funext i
  unfold M.snP
  by_cases c:i<m
  ·simp [c]
  ·simp [c]
 simp only [e3]
 by_cases c0:m=64
 ·have hA:M.adE ns m p=9:=by unfold M.adE; rw [if_pos c0]
  have hM:M.adM ns m p=m:=by unfold M.adM; rw [hA]; rfl
  obtain ⟨y1,y2⟩:=@M.le_sn g x n S m P p f
  simp only [hA,hM,y1,y2]
  have hS:∀ k,k<m→M.snP m P p k=P k:=fun k hk=>M.snP_lt hk
  subst c0
  simp
  exact ⟨fun k hk=>by rw [hS k hk]; simp,hN,fun k hk=>by rw [hL k hk]; simp⟩
 ·have hA:M.adE ns m p=p.vE ns:=by unfold M.adE; rw [if_neg c0]
  by_cases c1:p.vE ns=0
  ·have hM:M.adM ns m p=m+1:=by unfold M.adM; rw [hA,if_pos c1]
   simp only [hA,hM]
   have c0':¬ (m:Int)=64:=by omega
   obtain ⟨hm,hC2⟩:=M.ck_sn hC (by rw [hA]; exact c1)
   have l1:=M.Gd.leN_le (g:=g) (x:=x) (s:=S) (m:=m+1) (P:=M.snP m P p) (f:=f) n
   have l2:=M.Gd.leN_le (g:=g) (x:=x) (s:=S) (m:=m) (P:=P) (f:=f) n
   have r1:R64 ((N:Int)-M.Gd.leN g x S (m+1) (M.snP m P p) f n):=by unfold R64; omega
   have e4:∀ (q:M.Pk→Int) (k:Nat),(bif decide (k<m) then q (P k) else q p)=q (M.snP m P p k):=fun q k=>by
    unfold M.snP
    by_cases c:k<m <;> simp [c]
   simp [c1]
   exact ⟨c0',fun _=>⟨by omega,by omega,by omega,hC2,r1,fun k _=>⟨e4 M.Pk.k k,e4 M.Pk.s k,e4 M.Pk.t0 k,e4 M.Pk.t1 k,e4 M.Pk.l0 k,e4 M.Pk.l1 k⟩⟩⟩
  ·have hM:M.adM ns m p=m:=by unfold M.adM; rw [hA,if_neg c1]
   obtain ⟨y1,y2⟩:=@M.le_sn g x n S m P p f
   simp only [hA,hM,y1,y2]
   have c0':¬ (m:Int)=64:=by omega
   have hS:∀ k,k<m→M.snP m P p k=P k:=fun k hk=>M.snP_lt hk
   simp [c1,c0']
   exact ⟨by omega,fun k hk=>by rw [hS k hk]; simp,hN,fun k hk=>by rw [hL k hk]; simp⟩
theorem s48:SpecOK PP 48 e48:=by
 intro xs Hs ps res Hs1 h hp
 unfold e48 at h
 split at h
 ·rename_i p_k p_s p_t0 p_t1 p_l0 p_l1 g_w g_h g_s g_v0 g_v1 g_d0 g_d1 g_r ns g_1 f n g_2 m g_3 N g_4
  cases h
  simp only [AllP.cons] at hp
  obtain ⟨Hg_1,Hg_2,Hg_3,Hg_4,hp⟩:=hp
  exact Spec.blocks (enterBH (Hold.of (r48 (M.Gd.mk g_w g_h g_s g_v0 g_v1 g_d0 g_d1 g_r) ns (cI g_1 0) n (fun i=>M.Sc.mk (cI g_2 0 i) (cI g_2 1 i) (cI g_2 2 i) (cI g_2 3 i) (cI g_2 4 i)) m (fun i=>M.Pk.mk (cI g_3 0 i) (cI g_3 1 i) (cI g_3 2 i) (cI g_3 3 i) (cI g_3 4 i) (cI g_3 5 i)) f N (fun i=>M.Sc.mk (cI g_4 0 i) (cI g_4 1 i) (cI g_4 2 i) (cI g_4 3 i) (cI g_4 4 i)) (M.Pk.mk p_k p_s p_t0 p_t1 p_l0 p_l1)) (br48 (M.Gd.mk g_w g_h g_s g_v0 g_v1 g_d0 g_d1 g_r) ns (cI g_1 0) n (fun i=>M.Sc.mk (cI g_2 0 i) (cI g_2 1 i) (cI g_2 2 i) (cI g_2 3 i) (cI g_2 4 i)) m (fun i=>M.Pk.mk (cI g_3 0 i) (cI g_3 1 i) (cI g_3 2 i) (cI g_3 3 i) (cI g_3 4 i) (cI g_3 5 i)) f N (fun i=>M.Sc.mk (cI g_4 0 i) (cI g_4 1 i) (cI g_4 2 i) (cI g_4 3 i) (cI g_4 4 i)) (M.Pk.mk p_k p_s p_t0 p_t1 p_l0 p_l1) hp)) (.nil) (.cons frzE_ok (.cons (specE_ok s86) (.cons (pureE_ok s87) (.cons (specE_ok s88w) (.cons (pureE_ok s60s) (.nil)))))) (k:=48) (by kernel_rfl) (by kernel_rfl) rfl (fun _=>.nil)) (.cells (.cons (.refl _) (.cons (.refl _) (.cons (.refl _) (.cons (.refl _) (.cons (.refl _) (.cons (.refl _) (.cons (.refl _) (.cons (.refl _) (.cons (.row Hg_1 fun _=>rfl) (.cons (.refl _) (.cons (.refl _) (.cons (.row Hg_2 fun _=>rfl) (.cons (.row Hg_3 fun _=>rfl) (.cons (.row Hg_4 fun _=>rfl) .nil)))))))))))))) .nil)
 ·cases h
end Go.Proofs.Ytoncoofmijjgeaa.Sep
namespace Go.Proofs.Ytoncoofmijjgeaa.Sep
open Go
set_option linter.unusedVariables false
set_option linter.unusedSimpArgs false
def e61n:List SV→Option (List Prop × SV)
 | [.agg [.int .i64 g_w,.int .i64 g_h,.int .i64 g_s,.int .i64 g_v0,.int .i64 g_v1,.int .i64 g_d0,.int .i64 g_d1,.int .i64 g_r],.sl 1 ns g_1,.sl 5 n g_2,.lit (.slice none 0 0),.int .i64 f]=>some ([Row 1 ns g_1,Row 5 n g_2,ns≤100000,n≤100000],SI (M.Gd.ckE (M.Gd.mk g_w g_h g_s g_v0 g_v1 g_d0 g_d1 g_r) ns (cI g_1 0) n (fun i=>M.Sc.mk (cI g_2 0 i) (cI g_2 1 i) (cI g_2 2 i) (cI g_2 3 i) (cI g_2 4 i)) 0 M.P0 f))
 | _=>none
theorem s61n:PureOK PP 61 e61n:=by
 intro xs ps res h hp
 unfold e61n at h
 split at h
 ·rename_i g_w g_h g_s g_v0 g_v1 g_d0 g_d1 g_r ns g_1 n g_2 f
  cases h
  simp only [AllP.cons] at hp
  obtain ⟨Hg_1,Hg_2,hp⟩:=hp
  have h6:=s61 [.agg [.int .i64 g_w,.int .i64 g_h,.int .i64 g_s,.int .i64 g_v0,.int .i64 g_v1,.int .i64 g_d0,.int .i64 g_d1,.int .i64 g_r],.sl 1 ns g_1,.sl 5 n g_2,.sl 6 0 (fun _=>[]),.int .i64 f] _ _ rfl (AllP.cons.2 ⟨Hg_1,(AllP.cons.2 ⟨Hg_2,(AllP.cons.2 ⟨(fun k hk=>absurd hk (Nat.not_lt_zero k)),(AllP.cons.2 ⟨(hp.1),(AllP.cons.2 ⟨(hp.2.1),(AllP.cons.2 ⟨(by omega),AllP.nil⟩)⟩)⟩)⟩)⟩)⟩)
  replace h6:=Spec.args (xs:=[.agg [.int .i64 g_w,.int .i64 g_h,.int .i64 g_s,.int .i64 g_v0,.int .i64 g_v1,.int .i64 g_d0,.int .i64 g_d1,.int .i64 g_r],.sl 1 ns g_1,.sl 5 n g_2,.lit (.slice none 0 0),.int .i64 f]) h6 (.cons (.refl _) (.cons (.refl _) (.cons (.refl _) (.cons SLe.nilS (.cons (.refl _) .nil)))))
  exact h6
 ·cases h
def e62s:List SV→Option (List Prop × SV)
 | [.agg [.int .i64 g_w,.int .i64 g_h,.int .i64 g_s,.int .i64 g_v0,.int .i64 g_v1,.int .i64 g_d0,.int .i64 g_d1,.int .i64 g_r],.sl 1 ns g_1,.sl 5 n g_2,.sl 6 m g_3,.int .i64 f]=>some ([Row 1 ns g_1,Row 5 n g_2,Row 6 m g_3,M.Gd.Ck (M.Gd.mk g_w g_h g_s g_v0 g_v1 g_d0 g_d1 g_r) ns (cI g_1 0) n (fun i=>M.Sc.mk (cI g_2 0 i) (cI g_2 1 i) (cI g_2 2 i) (cI g_2 3 i) (cI g_2 4 i)) m (fun i=>M.Pk.mk (cI g_3 0 i) (cI g_3 1 i) (cI g_3 2 i) (cI g_3 3 i) (cI g_3 4 i) (cI g_3 5 i)) f],.sl 5 (M.Gd.leN (M.Gd.mk g_w g_h g_s g_v0 g_v1 g_d0 g_d1 g_r) (cI g_1 0) (fun i=>M.Sc.mk (cI g_2 0 i) (cI g_2 1 i) (cI g_2 2 i) (cI g_2 3 i) (cI g_2 4 i)) m (fun i=>M.Pk.mk (cI g_3 0 i) (cI g_3 1 i) (cI g_3 2 i) (cI g_3 3 i) (cI g_3 4 i) (cI g_3 5 i)) f n) (fun k=>[SI (M.Gd.leR (M.Gd.mk g_w g_h g_s g_v0 g_v1 g_d0 g_d1 g_r) (cI g_1 0) (fun i=>M.Sc.mk (cI g_2 0 i) (cI g_2 1 i) (cI g_2 2 i) (cI g_2 3 i) (cI g_2 4 i)) m (fun i=>M.Pk.mk (cI g_3 0 i) (cI g_3 1 i) (cI g_3 2 i) (cI g_3 3 i) (cI g_3 4 i) (cI g_3 5 i)) f n k).k,SI (M.Gd.leR (M.Gd.mk g_w g_h g_s g_v0 g_v1 g_d0 g_d1 g_r) (cI g_1 0) (fun i=>M.Sc.mk (cI g_2 0 i) (cI g_2 1 i) (cI g_2 2 i) (cI g_2 3 i) (cI g_2 4 i)) m (fun i=>M.Pk.mk (cI g_3 0 i) (cI g_3 1 i) (cI g_3 2 i) (cI g_3 3 i) (cI g_3 4 i) (cI g_3 5 i)) f n k).c,SI (M.Gd.leR (M.Gd.mk g_w g_h g_s g_v0 g_v1 g_d0 g_d1 g_r) (cI g_1 0) (fun i=>M.Sc.mk (cI g_2 0 i) (cI g_2 1 i) (cI g_2 2 i) (cI g_2 3 i) (cI g_2 4 i)) m (fun i=>M.Pk.mk (cI g_3 0 i) (cI g_3 1 i) (cI g_3 2 i) (cI g_3 3 i) (cI g_3 4 i) (cI g_3 5 i)) f n k).q,SI (M.Gd.leR (M.Gd.mk g_w g_h g_s g_v0 g_v1 g_d0 g_d1 g_r) (cI g_1 0) (fun i=>M.Sc.mk (cI g_2 0 i) (cI g_2 1 i) (cI g_2 2 i) (cI g_2 3 i) (cI g_2 4 i)) m (fun i=>M.Pk.mk (cI g_3 0 i) (cI g_3 1 i) (cI g_3 2 i) (cI g_3 3 i) (cI g_3 4 i) (cI g_3 5 i)) f n k).a,SI (M.Gd.leR (M.Gd.mk g_w g_h g_s g_v0 g_v1 g_d0 g_d1 g_r) (cI g_1 0) (fun i=>M.Sc.mk (cI g_2 0 i) (cI g_2 1 i) (cI g_2 2 i) (cI g_2 3 i) (cI g_2 4 i)) m (fun i=>M.Pk.mk (cI g_3 0 i) (cI g_3 1 i) (cI g_3 2 i) (cI g_3 3 i) (cI g_3 4 i) (cI g_3 5 i)) f n k).b]))
 | _=>none
theorem s62s:PureOK PP 62 e62s:=by
 intro xs ps res h hp
 unfold e62s at h
 split at h
 ·rename_i g_w g_h g_s g_v0 g_v1 g_d0 g_d1 g_r ns g_1 n g_2 m g_3 f
  cases h
  simp only [AllP.cons] at hp
  obtain ⟨Hg_1,Hg_2,Hg_3,hp⟩:=hp
  have h6:=s62 [.agg [.int .i64 g_w,.int .i64 g_h,.int .i64 g_s,.int .i64 g_v0,.int .i64 g_v1,.int .i64 g_d0,.int .i64 g_d1,.int .i64 g_r],.sl 1 ns g_1,.sl 5 n g_2,.sl 6 m g_3,.int .i64 f] _ _ rfl (AllP.cons.2 ⟨Hg_1,(AllP.cons.2 ⟨Hg_2,(AllP.cons.2 ⟨Hg_3,(AllP.cons.2 ⟨(hp.1),AllP.nil⟩)⟩)⟩)⟩)
  exact h6
 ·cases h
def e52:EntB
 | [.ptr 0 0],[.cells [.int .i64 g_w,.int .i64 g_h,.int .i64 g_s,.int .i64 g_v0,.int .i64 g_v1,.int .i64 g_d0,.int .i64 g_d1,.int .i64 g_r,.sl 1 ns g_1,.sl 5 n g_2,.sl 6 m g_3,.int .i64 f]]=>some ([Row 1 ns g_1,Row 5 n g_2,Row 6 m g_3,M.Gd.Ck (M.Gd.mk g_w g_h g_s g_v0 g_v1 g_d0 g_d1 g_r) ns (cI g_1 0) n (fun i=>M.Sc.mk (cI g_2 0 i) (cI g_2 1 i) (cI g_2 2 i) (cI g_2 3 i) (cI g_2 4 i)) m (fun i=>M.Pk.mk (cI g_3 0 i) (cI g_3 1 i) (cI g_3 2 i) (cI g_3 3 i) (cI g_3 4 i) (cI g_3 5 i)) f],.sl 5 (M.Gd.leN (M.Gd.mk g_w g_h g_s g_v0 g_v1 g_d0 g_d1 g_r) (cI g_1 0) (fun i=>M.Sc.mk (cI g_2 0 i) (cI g_2 1 i) (cI g_2 2 i) (cI g_2 3 i) (cI g_2 4 i)) m (fun i=>M.Pk.mk (cI g_3 0 i) (cI g_3 1 i) (cI g_3 2 i) (cI g_3 3 i) (cI g_3 4 i) (cI g_3 5 i)) f n) (fun k=>[SI (M.Gd.leR (M.Gd.mk g_w g_h g_s g_v0 g_v1 g_d0 g_d1 g_r) (cI g_1 0) (fun i=>M.Sc.mk (cI g_2 0 i) (cI g_2 1 i) (cI g_2 2 i) (cI g_2 3 i) (cI g_2 4 i)) m (fun i=>M.Pk.mk (cI g_3 0 i) (cI g_3 1 i) (cI g_3 2 i) (cI g_3 3 i) (cI g_3 4 i) (cI g_3 5 i)) f n k).k,SI (M.Gd.leR (M.Gd.mk g_w g_h g_s g_v0 g_v1 g_d0 g_d1 g_r) (cI g_1 0) (fun i=>M.Sc.mk (cI g_2 0 i) (cI g_2 1 i) (cI g_2 2 i) (cI g_2 3 i) (cI g_2 4 i)) m (fun i=>M.Pk.mk (cI g_3 0 i) (cI g_3 1 i) (cI g_3 2 i) (cI g_3 3 i) (cI g_3 4 i) (cI g_3 5 i)) f n k).c,SI (M.Gd.leR (M.Gd.mk g_w g_h g_s g_v0 g_v1 g_d0 g_d1 g_r) (cI g_1 0) (fun i=>M.Sc.mk (cI g_2 0 i) (cI g_2 1 i) (cI g_2 2 i) (cI g_2 3 i) (cI g_2 4 i)) m (fun i=>M.Pk.mk (cI g_3 0 i) (cI g_3 1 i) (cI g_3 2 i) (cI g_3 3 i) (cI g_3 4 i) (cI g_3 5 i)) f n k).q,SI (M.Gd.leR (M.Gd.mk g_w g_h g_s g_v0 g_v1 g_d0 g_d1 g_r) (cI g_1 0) (fun i=>M.Sc.mk (cI g_2 0 i) (cI g_2 1 i) (cI g_2 2 i) (cI g_2 3 i) (cI g_2 4 i)) m (fun i=>M.Pk.mk (cI g_3 0 i) (cI g_3 1 i) (cI g_3 2 i) (cI g_3 3 i) (cI g_3 4 i) (cI g_3 5 i)) f n k).a,SI (M.Gd.leR (M.Gd.mk g_w g_h g_s g_v0 g_v1 g_d0 g_d1 g_r) (cI g_1 0) (fun i=>M.Sc.mk (cI g_2 0 i) (cI g_2 1 i) (cI g_2 2 i) (cI g_2 3 i) (cI g_2 4 i)) m (fun i=>M.Pk.mk (cI g_3 0 i) (cI g_3 1 i) (cI g_3 2 i) (cI g_3 3 i) (cI g_3 4 i) (cI g_3 5 i)) f n k).b]),[.cells [SI (M.Gd.w (M.Gd.mk g_w g_h g_s g_v0 g_v1 g_d0 g_d1 g_r)),SI (M.Gd.h (M.Gd.mk g_w g_h g_s g_v0 g_v1 g_d0 g_d1 g_r)),SI (M.Gd.s (M.Gd.mk g_w g_h g_s g_v0 g_v1 g_d0 g_d1 g_r)),SI (M.Gd.v0 (M.Gd.mk g_w g_h g_s g_v0 g_v1 g_d0 g_d1 g_r)),SI (M.Gd.v1 (M.Gd.mk g_w g_h g_s g_v0 g_v1 g_d0 g_d1 g_r)),SI (M.Gd.d0 (M.Gd.mk g_w g_h g_s g_v0 g_v1 g_d0 g_d1 g_r)),SI (M.Gd.d1 (M.Gd.mk g_w g_h g_s g_v0 g_v1 g_d0 g_d1 g_r)),SI (M.Gd.r (M.Gd.mk g_w g_h g_s g_v0 g_v1 g_d0 g_d1 g_r)),.sl 1 ns (fun k=>[SI ((cI g_1 0) k)]),.sl 5 n (fun k=>[SI (M.Sc.k ((fun i=>M.Sc.mk (cI g_2 0 i) (cI g_2 1 i) (cI g_2 2 i) (cI g_2 3 i) (cI g_2 4 i)) k)),SI (M.Sc.c ((fun i=>M.Sc.mk (cI g_2 0 i) (cI g_2 1 i) (cI g_2 2 i) (cI g_2 3 i) (cI g_2 4 i)) k)),SI (M.Sc.q ((fun i=>M.Sc.mk (cI g_2 0 i) (cI g_2 1 i) (cI g_2 2 i) (cI g_2 3 i) (cI g_2 4 i)) k)),SI (M.Sc.a ((fun i=>M.Sc.mk (cI g_2 0 i) (cI g_2 1 i) (cI g_2 2 i) (cI g_2 3 i) (cI g_2 4 i)) k)),SI (M.Sc.b ((fun i=>M.Sc.mk (cI g_2 0 i) (cI g_2 1 i) (cI g_2 2 i) (cI g_2 3 i) (cI g_2 4 i)) k))]),.sl 6 m (fun k=>[SI (M.Pk.k ((fun i=>M.Pk.mk (cI g_3 0 i) (cI g_3 1 i) (cI g_3 2 i) (cI g_3 3 i) (cI g_3 4 i) (cI g_3 5 i)) k)),SI (M.Pk.s ((fun i=>M.Pk.mk (cI g_3 0 i) (cI g_3 1 i) (cI g_3 2 i) (cI g_3 3 i) (cI g_3 4 i) (cI g_3 5 i)) k)),SI (M.Pk.t0 ((fun i=>M.Pk.mk (cI g_3 0 i) (cI g_3 1 i) (cI g_3 2 i) (cI g_3 3 i) (cI g_3 4 i) (cI g_3 5 i)) k)),SI (M.Pk.t1 ((fun i=>M.Pk.mk (cI g_3 0 i) (cI g_3 1 i) (cI g_3 2 i) (cI g_3 3 i) (cI g_3 4 i) (cI g_3 5 i)) k)),SI (M.Pk.l0 ((fun i=>M.Pk.mk (cI g_3 0 i) (cI g_3 1 i) (cI g_3 2 i) (cI g_3 3 i) (cI g_3 4 i) (cI g_3 5 i)) k)),SI (M.Pk.l1 ((fun i=>M.Pk.mk (cI g_3 0 i) (cI g_3 1 i) (cI g_3 2 i) (cI g_3 3 i) (cI g_3 4 i) (cI g_3 5 i)) k))]),SI f]])
 | _,_=>none
def Rr52 (g:M.Gd) (ns:Nat) (x:Nat→Int) (n:Nat) (S:Nat→M.Sc) (m:Nat) (P:Nat→M.Pk) (f:Int):Prop:=(fun (z3:Nat) (z0:Nat→M.Sc) (z1 z2 z4:Prop)=>z4∧z2∧z1∧M.Gd.Ck g ns x n S m P f∧(g.w=g.w∧g.h=g.h∧g.s=g.s∧g.v0=g.v0∧g.v1=g.v1∧g.d0=g.d0∧g.d1=g.d1∧g.r=g.r∧(ns=ns∧z4)∧(n=n∧z2)∧(m=m∧z1)∧f=f)∧z3=z3∧∀ (k:Nat),k<z3→(z0 k).k=(z0 k).k∧(z0 k).c=(z0 k).c∧(z0 k).q=(z0 k).q∧(z0 k).a=(z0 k).a∧(z0 k).b=(z0 k).b) (M.Gd.leN g x S m P f n) (M.Gd.leR g x S m P f n) (∀ (k:Nat),k<m→(P k).k=(P k).k∧(P k).s=(P k).s∧(P k).t0=(P k).t0∧(P k).t1=(P k).t1∧(P k).l0=(P k).l0∧(P k).l1=(P k).l1) (∀ (k:Nat),k<n→(S k).k=(S k).k∧(S k).c=(S k).c∧(S k).q=(S k).q∧(S k).a=(S k).a∧(S k).b=(S k).b) (∀ (k:Nat),k<ns→x k=x k)
theorem r52 (g:M.Gd) (ns:Nat) (x:Nat→Int) (n:Nat) (S:Nat→M.Sc) (m:Nat) (P:Nat→M.Pk) (f:Int):VB true [] [(62,pureE e62s)] Try.f52 [0,2] [] [.ptr 0 0] [.cells [SI (M.Gd.w g),SI (M.Gd.h g),SI (M.Gd.s g),SI (M.Gd.v0 g),SI (M.Gd.v1 g),SI (M.Gd.d0 g),SI (M.Gd.d1 g),SI (M.Gd.r g),.sl 1 ns (fun k=>[SI (x k)]),.sl 5 n (fun k=>[SI (M.Sc.k (S k)),SI (M.Sc.c (S k)),SI (M.Sc.q (S k)),SI (M.Sc.a (S k)),SI (M.Sc.b (S k))]),.sl 6 m (fun k=>[SI (M.Pk.k (P k)),SI (M.Pk.s (P k)),SI (M.Pk.t0 (P k)),SI (M.Pk.t1 (P k)),SI (M.Pk.l0 (P k)),SI (M.Pk.l1 (P k))]),SI f]] (.sl 5 (M.Gd.leN g x S m P f n) (fun k=>[SI (M.Gd.leR g x S m P f n k).k,SI (M.Gd.leR g x S m P f n k).c,SI (M.Gd.leR g x S m P f n k).q,SI (M.Gd.leR g x S m P f n k).a,SI (M.Gd.leR g x S m P f n k).b])) [.cells [SI (M.Gd.w g),SI (M.Gd.h g),SI (M.Gd.s g),SI (M.Gd.v0 g),SI (M.Gd.v1 g),SI (M.Gd.d0 g),SI (M.Gd.d1 g),SI (M.Gd.r g),.sl 1 ns (fun k=>[SI (x k)]),.sl 5 n (fun k=>[SI (M.Sc.k (S k)),SI (M.Sc.c (S k)),SI (M.Sc.q (S k)),SI (M.Sc.a (S k)),SI (M.Sc.b (S k))]),.sl 6 m (fun k=>[SI (M.Pk.k (P k)),SI (M.Pk.s (P k)),SI (M.Pk.t0 (P k)),SI (M.Pk.t1 (P k)),SI (M.Pk.l0 (P k)),SI (M.Pk.l1 (P k))]),SI f]]=Rr52 g ns x n S m P f:=by kernel_rfl
theorem br52 (g:M.Gd) (ns:Nat) (x:Nat→Int) (n:Nat) (S:Nat→M.Sc) (m:Nat) (P:Nat→M.Pk) (f:Int) (hp:(M.Gd.Ck g ns x n S m P f)∧AllP []):Rr52 g ns x n S m P f:=by
 unfold Rr52
 dsimp -iota -proj -eta -zeta only
 simp [(id hp).1]
theorem s52:SpecOK PP 52 e52:=by
 intro xs Hs ps res Hs1 h hp
 unfold e52 at h
 split at h
 ·rename_i g_w g_h g_s g_v0 g_v1 g_d0 g_d1 g_r ns g_1 n g_2 m g_3 f
  cases h
  simp only [AllP.cons] at hp
  obtain ⟨Hg_1,Hg_2,Hg_3,hp⟩:=hp
  exact Spec.blocks (enterBH (Hold.of (r52 (M.Gd.mk g_w g_h g_s g_v0 g_v1 g_d0 g_d1 g_r) ns (cI g_1 0) n (fun i=>M.Sc.mk (cI g_2 0 i) (cI g_2 1 i) (cI g_2 2 i) (cI g_2 3 i) (cI g_2 4 i)) m (fun i=>M.Pk.mk (cI g_3 0 i) (cI g_3 1 i) (cI g_3 2 i) (cI g_3 3 i) (cI g_3 4 i) (cI g_3 5 i)) f) (br52 (M.Gd.mk g_w g_h g_s g_v0 g_v1 g_d0 g_d1 g_r) ns (cI g_1 0) n (fun i=>M.Sc.mk (cI g_2 0 i) (cI g_2 1 i) (cI g_2 2 i) (cI g_2 3 i) (cI g_2 4 i)) m (fun i=>M.Pk.mk (cI g_3 0 i) (cI g_3 1 i) (cI g_3 2 i) (cI g_3 3 i) (cI g_3 4 i) (cI g_3 5 i)) f hp)) (.nil) (.cons (pureE_ok s62s) (.nil)) (k:=52) (by kernel_rfl) (by kernel_rfl) rfl (fun _=>.nil)) (.cells (.cons (.refl _) (.cons (.refl _) (.cons (.refl _) (.cons (.refl _) (.cons (.refl _) (.cons (.refl _) (.cons (.refl _) (.cons (.refl _) (.cons (.row Hg_1 fun _=>rfl) (.cons (.row Hg_2 fun _=>rfl) (.cons (.row Hg_3 fun _=>rfl) (.cons (.refl _) .nil)))))))))))) .nil)
 ·cases h
def e49:EntB
 | [.ptr 0 0,.agg [.int .i64 p_k,.int .i64 p_s,.int .i64 p_t0,.int .i64 p_t1,.int .i64 p_l0,.int .i64 p_l1]],[.cells [.int .i64 g_w,.int .i64 g_h,.int .i64 g_s,.int .i64 g_v0,.int .i64 g_v1,.int .i64 g_d0,.int .i64 g_d1,.int .i64 g_r,.sl 1 ns g_1,.sl 5 n g_2,.sl 6 m g_3,.int .i64 f]]=>some ([Row 1 ns g_1,Row 5 n g_2,Row 6 m g_3,M.Gd.Ck (M.Gd.mk g_w g_h g_s g_v0 g_v1 g_d0 g_d1 g_r) ns (cI g_1 0) n (fun i=>M.Sc.mk (cI g_2 0 i) (cI g_2 1 i) (cI g_2 2 i) (cI g_2 3 i) (cI g_2 4 i)) m (fun i=>M.Pk.mk (cI g_3 0 i) (cI g_3 1 i) (cI g_3 2 i) (cI g_3 3 i) (cI g_3 4 i) (cI g_3 5 i)) f],.tup [SI (if M.adE ns m (M.Pk.mk p_k p_s p_t0 p_t1 p_l0 p_l1)=0 then (M.Gd.leN (M.Gd.mk g_w g_h g_s g_v0 g_v1 g_d0 g_d1 g_r) (cI g_1 0) (fun i=>M.Sc.mk (cI g_2 0 i) (cI g_2 1 i) (cI g_2 2 i) (cI g_2 3 i) (cI g_2 4 i)) m (fun i=>M.Pk.mk (cI g_3 0 i) (cI g_3 1 i) (cI g_3 2 i) (cI g_3 3 i) (cI g_3 4 i) (cI g_3 5 i)) f n:Int)-M.Gd.leN (M.Gd.mk g_w g_h g_s g_v0 g_v1 g_d0 g_d1 g_r) (cI g_1 0) (fun i=>M.Sc.mk (cI g_2 0 i) (cI g_2 1 i) (cI g_2 2 i) (cI g_2 3 i) (cI g_2 4 i)) (m+1) (M.snP m (fun i=>M.Pk.mk (cI g_3 0 i) (cI g_3 1 i) (cI g_3 2 i) (cI g_3 3 i) (cI g_3 4 i) (cI g_3 5 i)) (M.Pk.mk p_k p_s p_t0 p_t1 p_l0 p_l1)) f n else 0),SI (M.adE ns m (M.Pk.mk p_k p_s p_t0 p_t1 p_l0 p_l1))],[.cells [SI (M.Gd.w (M.Gd.mk g_w g_h g_s g_v0 g_v1 g_d0 g_d1 g_r)),SI (M.Gd.h (M.Gd.mk g_w g_h g_s g_v0 g_v1 g_d0 g_d1 g_r)),SI (M.Gd.s (M.Gd.mk g_w g_h g_s g_v0 g_v1 g_d0 g_d1 g_r)),SI (M.Gd.v0 (M.Gd.mk g_w g_h g_s g_v0 g_v1 g_d0 g_d1 g_r)),SI (M.Gd.v1 (M.Gd.mk g_w g_h g_s g_v0 g_v1 g_d0 g_d1 g_r)),SI (M.Gd.d0 (M.Gd.mk g_w g_h g_s g_v0 g_v1 g_d0 g_d1 g_r)),SI (M.Gd.d1 (M.Gd.mk g_w g_h g_s g_v0 g_v1 g_d0 g_d1 g_r)),SI (M.Gd.r (M.Gd.mk g_w g_h g_s g_v0 g_v1 g_d0 g_d1 g_r)),.sl 1 ns (fun k=>[SI ((cI g_1 0) k)]),.sl 5 n (fun k=>[SI (M.Sc.k ((fun i=>M.Sc.mk (cI g_2 0 i) (cI g_2 1 i) (cI g_2 2 i) (cI g_2 3 i) (cI g_2 4 i)) k)),SI (M.Sc.c ((fun i=>M.Sc.mk (cI g_2 0 i) (cI g_2 1 i) (cI g_2 2 i) (cI g_2 3 i) (cI g_2 4 i)) k)),SI (M.Sc.q ((fun i=>M.Sc.mk (cI g_2 0 i) (cI g_2 1 i) (cI g_2 2 i) (cI g_2 3 i) (cI g_2 4 i)) k)),SI (M.Sc.a ((fun i=>M.Sc.mk (cI g_2 0 i) (cI g_2 1 i) (cI g_2 2 i) (cI g_2 3 i) (cI g_2 4 i)) k)),SI (M.Sc.b ((fun i=>M.Sc.mk (cI g_2 0 i) (cI g_2 1 i) (cI g_2 2 i) (cI g_2 3 i) (cI g_2 4 i)) k))]),.sl 6 (M.adM ns m (M.Pk.mk p_k p_s p_t0 p_t1 p_l0 p_l1)) (fun k=>[SI (M.Pk.k ((M.snP m (fun i=>M.Pk.mk (cI g_3 0 i) (cI g_3 1 i) (cI g_3 2 i) (cI g_3 3 i) (cI g_3 4 i) (cI g_3 5 i)) (M.Pk.mk p_k p_s p_t0 p_t1 p_l0 p_l1)) k)),SI (M.Pk.s ((M.snP m (fun i=>M.Pk.mk (cI g_3 0 i) (cI g_3 1 i) (cI g_3 2 i) (cI g_3 3 i) (cI g_3 4 i) (cI g_3 5 i)) (M.Pk.mk p_k p_s p_t0 p_t1 p_l0 p_l1)) k)),SI (M.Pk.t0 ((M.snP m (fun i=>M.Pk.mk (cI g_3 0 i) (cI g_3 1 i) (cI g_3 2 i) (cI g_3 3 i) (cI g_3 4 i) (cI g_3 5 i)) (M.Pk.mk p_k p_s p_t0 p_t1 p_l0 p_l1)) k)),SI (M.Pk.t1 ((M.snP m (fun i=>M.Pk.mk (cI g_3 0 i) (cI g_3 1 i) (cI g_3 2 i) (cI g_3 3 i) (cI g_3 4 i) (cI g_3 5 i)) (M.Pk.mk p_k p_s p_t0 p_t1 p_l0 p_l1)) k)),SI (M.Pk.l0 ((M.snP m (fun i=>M.Pk.mk (cI g_3 0 i) (cI g_3 1 i) (cI g_3 2 i) (cI g_3 3 i) (cI g_3 4 i) (cI g_3 5 i)) (M.Pk.mk p_k p_s p_t0 p_t1 p_l0 p_l1)) k)),SI (M.Pk.l1 ((M.snP m (fun i=>M.Pk.mk (cI g_3 0 i) (cI g_3 1 i) (cI g_3 2 i) (cI g_3 3 i) (cI g_3 4 i) (cI g_3 5 i)) (M.Pk.mk p_k p_s p_t0 p_t1 p_l0 p_l1)) k))]),SI f]])
 | _,_=>none
def Rr49 (g:M.Gd) (ns:Nat) (x:Nat→Int) (n:Nat) (S:Nat→M.Sc) (m:Nat) (P:Nat→M.Pk) (f:Int) (p:M.Pk):Prop:=(fun (z11:Bool) (z5:Int) (z1:Nat) (z10:Nat→M.Pk) (z4 z7:Prop)=>(fun (z3:Int) (z8:Nat) (z2:Prop)=>(fun (z6:Nat) (z0:Nat→M.Pk)=>(fun (z9:Int)=>(z11=true→z2∧(z5=z3)∧(9:Int)=M.adE ns m p)∧(z11=false→z7∧ns≤(100000:Nat)∧((!decide (M.Pk.vE ns p=z5))=true→z2∧(z5=z3)∧M.Pk.vE ns p=M.adE ns m p)∧((!decide (M.Pk.vE ns p=z5))=false→z7∧z4∧(∀ (k:Nat),k<m→(P k).k=(P k).k∧(P k).s=(P k).s∧(P k).t0=(P k).t0∧(P k).t1=(P k).t1∧(P k).l0=(P k).l0∧(P k).l1=(P k).l1)∧M.Gd.Ck g ns x n S m P f∧(∀ (k:Nat),k<m→true=true)∧z1≤z1∧z8*(48:Nat)≤(140737488355328:Nat)∧z1+(1:Nat)≤(1:Nat)∧(∀ (k:Nat),k<(1:Nat)→true=true)∧z8≤z8∧z6*(48:Nat)≤(140737488355328:Nat)∧z1+z6≤z6∧z7∧z4∧(∀ (k:Nat),k<z6→((bif decide (z1+k<z8) then bif decide (z1+k<z1) then z5 else (P (z1+k-z1)).k else p.k)=bif decide (z1+k<z8) then bif decide (z1+k<z1) then z5 else (P (z1+k-z1)).k else p.k)∧((bif decide (z1+k<z8) then bif decide (z1+k<z1) then z5 else (P (z1+k-z1)).s else p.s)=bif decide (z1+k<z8) then bif decide (z1+k<z1) then z5 else (P (z1+k-z1)).s else p.s)∧((bif decide (z1+k<z8) then bif decide (z1+k<z1) then z5 else (P (z1+k-z1)).t0 else p.t0)=bif decide (z1+k<z8) then bif decide (z1+k<z1) then z5 else (P (z1+k-z1)).t0 else p.t0)∧((bif decide (z1+k<z8) then bif decide (z1+k<z1) then z5 else (P (z1+k-z1)).t1 else p.t1)=bif decide (z1+k<z8) then bif decide (z1+k<z1) then z5 else (P (z1+k-z1)).t1 else p.t1)∧((bif decide (z1+k<z8) then bif decide (z1+k<z1) then z5 else (P (z1+k-z1)).l0 else p.l0)=bif decide (z1+k<z8) then bif decide (z1+k<z1) then z5 else (P (z1+k-z1)).l0 else p.l0)∧(bif decide (z1+k<z8) then bif decide (z1+k<z1) then z5 else (P (z1+k-z1)).l1 else p.l1)=bif decide (z1+k<z8) then bif decide (z1+k<z1) then z5 else (P (z1+k-z1)).l1 else p.l1)∧M.Gd.Ck g ns x n S z6 z0 f∧R64 z9∧(g.w=g.w∧g.h=g.h∧g.s=g.s∧g.v0=g.v0∧g.v1=g.v1∧g.d0=g.d0∧g.d1=g.d1∧g.r=g.r∧(ns=ns∧z7)∧(n=n∧z4)∧(z6=M.adM ns m p∧∀ (k:Nat),k<z6→(bif decide (z1+k<z8) then bif decide (z1+k<z1) then z5 else (P (z1+k-z1)).k else p.k)=(z10 k).k∧(bif decide (z1+k<z8) then bif decide (z1+k<z1) then z5 else (P (z1+k-z1)).s else p.s)=(z10 k).s∧(bif decide (z1+k<z8) then bif decide (z1+k<z1) then z5 else (P (z1+k-z1)).t0 else p.t0)=(z10 k).t0∧(bif decide (z1+k<z8) then bif decide (z1+k<z1) then z5 else (P (z1+k-z1)).t1 else p.t1)=(z10 k).t1∧(bif decide (z1+k<z8) then bif decide (z1+k<z1) then z5 else (P (z1+k-z1)).l0 else p.l0)=(z10 k).l0∧(bif decide (z1+k<z8) then bif decide (z1+k<z1) then z5 else (P (z1+k-z1)).l1 else p.l1)=(z10 k).l1)∧f=f)∧(z9=z3)∧z5=M.adE ns m p))) ((↑(M.Gd.leN g x S m P f n):Int)-(↑(M.Gd.leN g x S z6 z0 f n):Int))) (z8+(1:Nat)) (fun i=>M.Pk.mk (bif decide (z1+i<z8) then bif decide (z1+i<z1) then z5 else (P (z1+i-z1)).k else p.k) (bif decide (z1+i<z8) then bif decide (z1+i<z1) then z5 else (P (z1+i-z1)).s else p.s) (bif decide (z1+i<z8) then bif decide (z1+i<z1) then z5 else (P (z1+i-z1)).t0 else p.t0) (bif decide (z1+i<z8) then bif decide (z1+i<z1) then z5 else (P (z1+i-z1)).t1 else p.t1) (bif decide (z1+i<z8) then bif decide (z1+i<z1) then z5 else (P (z1+i-z1)).l0 else p.l0) (bif decide (z1+i<z8) then bif decide (z1+i<z1) then z5 else (P (z1+i-z1)).l1 else p.l1))) (if M.adE ns m p=z5 then (↑(M.Gd.leN g x S m P f n):Int)-(↑(M.Gd.leN g x S (m+(1:Nat)) z10 f n):Int) else z5) (z1+m) (g.w=g.w∧g.h=g.h∧g.s=g.s∧g.v0=g.v0∧g.v1=g.v1∧g.d0=g.d0∧g.d1=g.d1∧g.r=g.r∧(ns=ns∧z7)∧(n=n∧z4)∧(m=M.adM ns m p∧∀ (k:Nat),k<m→(P k).k=(z10 k).k∧(P k).s=(z10 k).s∧(P k).t0=(z10 k).t0∧(P k).t1=(z10 k).t1∧(P k).l0=(z10 k).l0∧(P k).l1=(z10 k).l1)∧f=f)) (decide ((64:Int)≤(↑m:Int))) (0:Int) (0:Nat) (M.snP m P p) (∀ (k:Nat),k<n→(S k).k=(S k).k∧(S k).c=(S k).c∧(S k).q=(S k).q∧(S k).a=(S k).a∧(S k).b=(S k).b) (∀ (k:Nat),k<ns→x k=x k)
theorem r49 (g:M.Gd) (ns:Nat) (x:Nat→Int) (n:Nat) (S:Nat→M.Sc) (m:Nat) (P:Nat→M.Pk) (f:Int) (p:M.Pk):VB true [] [(1000000,frzE),(89,pureE e89),(52,specE e52)] Try.f49 [0,1,3,4,5,6,7,13,21] [] [.ptr 0 0,.agg [SI (M.Pk.k p),SI (M.Pk.s p),SI (M.Pk.t0 p),SI (M.Pk.t1 p),SI (M.Pk.l0 p),SI (M.Pk.l1 p)]] [.cells [SI (M.Gd.w g),SI (M.Gd.h g),SI (M.Gd.s g),SI (M.Gd.v0 g),SI (M.Gd.v1 g),SI (M.Gd.d0 g),SI (M.Gd.d1 g),SI (M.Gd.r g),.sl 1 ns (fun k=>[SI (x k)]),.sl 5 n (fun k=>[SI (M.Sc.k (S k)),SI (M.Sc.c (S k)),SI (M.Sc.q (S k)),SI (M.Sc.a (S k)),SI (M.Sc.b (S k))]),.sl 6 m (fun k=>[SI (M.Pk.k (P k)),SI (M.Pk.s (P k)),SI (M.Pk.t0 (P k)),SI (M.Pk.t1 (P k)),SI (M.Pk.l0 (P k)),SI (M.Pk.l1 (P k))]),SI f]] (.tup [SI (if M.adE ns m p=0 then (M.Gd.leN g x S m P f n:Int)-M.Gd.leN g x S (m+1) (M.snP m P p) f n else 0),SI (M.adE ns m p)]) [.cells [SI (M.Gd.w g),SI (M.Gd.h g),SI (M.Gd.s g),SI (M.Gd.v0 g),SI (M.Gd.v1 g),SI (M.Gd.d0 g),SI (M.Gd.d1 g),SI (M.Gd.r g),.sl 1 ns (fun k=>[SI (x k)]),.sl 5 n (fun k=>[SI (M.Sc.k (S k)),SI (M.Sc.c (S k)),SI (M.Sc.q (S k)),SI (M.Sc.a (S k)),SI (M.Sc.b (S k))]),.sl 6 (M.adM ns m p) (fun k=>[SI (M.Pk.k ((M.snP m P p) k)),SI (M.Pk.s ((M.snP m P p) k)),SI (M.Pk.t0 ((M.snP m P p) k)),SI (M.Pk.t1 ((M.snP m P p) k)),SI (M.Pk.l0 ((M.snP m P p) k)),SI (M.Pk.l1 ((M.snP m P p) k))]),SI f]]=Rr49 g ns x n S m P f p:=by kernel_rfl
theorem br49 (g:M.Gd) (ns:Nat) (x:Nat→Int) (n:Nat) (S:Nat→M.Sc) (m:Nat) (P:Nat→M.Pk) (f:Int) (p:M.Pk) (hp:(M.Gd.Ck g ns x n S m P f)∧AllP []):Rr49 g ns x n S m P f p:=by
 unfold Rr49
 dsimp -iota -proj -eta -zeta only
 obtain ⟨hC,-⟩:=id hp
 obtain ⟨k1,k2,k3,⟨k4,k5⟩,k6,k7,k8⟩:=id hC
 have e3:(fun i=>M.Pk.mk (bif decide (0+i<0+m) then bif decide (0+i<0) then 0 else (P (0+i-0)).k else p.k) (bif decide (0+i<0+m) then bif decide (0+i<0) then 0 else (P (0+i-0)).s else p.s) (bif decide (0+i<0+m) then bif decide (0+i<0) then 0 else (P (0+i-0)).t0 else p.t0) (bif decide (0+i<0+m) then bif decide (0+i<0) then 0 else (P (0+i-0)).t1 else p.t1) (bif decide (0+i<0+m) then bif decide (0+i<0) then 0 else (P (0+i-0)).l0 else p.l0) (bif decide (0+i<0+m) then bif decide (0+i<0) then 0 else (P (0+i-0)).l1 else p.l1))=M.snP m P p:=by
  funext i
  unfold M.snP
  by_cases c:i<m
  ·simp [c]
  ·simp [c]
 simp only [e3]
 have hS:∀ k,k<m→M.snP m P p k=P k:=fun k hk=>M.snP_lt hk
 by_cases c0:m=64
 ·have hA:M.adE ns m p=9:=by unfold M.adE; rw [if_pos c0]
  have hM:M.adM ns m p=m:=by unfold M.adM; rw [hA]; rfl
  simp only [hA,hM]
  subst c0
  simp
  exact fun k hk=>by rw [hS k hk]; simp
 ·have hA:M.adE ns m p=p.vE ns:=by unfold M.adE; rw [if_neg c0]
  have c0':¬ (64:Int)≤m:=by omega
  by_cases c1:p.vE ns=0
  ·have hM:M.adM ns m p=m+1:=by unfold M.adM; rw [hA,if_pos c1]
   simp only [hA,hM]
   obtain ⟨hm,hC2⟩:=M.ck_sn hC (by rw [hA]; exact c1)
   have l1:=M.Gd.leN_le (g:=g) (x:=x) (s:=S) (m:=m+1) (P:=M.snP m P p) (f:=f) n
   have l2:=M.Gd.leN_le (g:=g) (x:=x) (s:=S) (m:=m) (P:=P) (f:=f) n
   have r1:R64 ((M.Gd.leN g x S m P f n:Int)-M.Gd.leN g x S (m+1) (M.snP m P p) f n):=by unfold R64; omega
   have e4:∀ (q:M.Pk→Int) (k:Nat),(bif decide (k<m) then q (P k) else q p)=q (M.snP m P p k):=fun q k=>by
    unfold M.snP
    by_cases c:k<m <;> simp [c]
   simp [c1,c0',hC]
   exact ⟨by omega,by omega,by omega,hC2,r1,fun k _=>⟨e4 M.Pk.k k,e4 M.Pk.s k,e4 M.Pk.t0 k,e4 M.Pk.t1 k,e4 M.Pk.l0 k,e4 M.Pk.l1 k⟩⟩
  ·have hM:M.adM ns m p=m:=by unfold M.adM; rw [hA,if_neg c1]
   simp only [hA,hM]
   simp [c1,c0']
   exact ⟨by omega,fun k hk=>by rw [hS k hk]; simp⟩
theorem s49:SpecOK PP 49 e49:=by
 intro xs Hs ps res Hs1 h hp
 unfold e49 at h
 split at h
 ·rename_i p_k p_s p_t0 p_t1 p_l0 p_l1 g_w g_h g_s g_v0 g_v1 g_d0 g_d1 g_r ns g_1 n g_2 m g_3 f
  cases h
  simp only [AllP.cons] at hp
  obtain ⟨Hg_1,Hg_2,Hg_3,hp⟩:=hp
  exact Spec.blocks (enterBH (Hold.of (r49 (M.Gd.mk g_w g_h g_s g_v0 g_v1 g_d0 g_d1 g_r) ns (cI g_1 0) n (fun i=>M.Sc.mk (cI g_2 0 i) (cI g_2 1 i) (cI g_2 2 i) (cI g_2 3 i) (cI g_2 4 i)) m (fun i=>M.Pk.mk (cI g_3 0 i) (cI g_3 1 i) (cI g_3 2 i) (cI g_3 3 i) (cI g_3 4 i) (cI g_3 5 i)) f (M.Pk.mk p_k p_s p_t0 p_t1 p_l0 p_l1)) (br49 (M.Gd.mk g_w g_h g_s g_v0 g_v1 g_d0 g_d1 g_r) ns (cI g_1 0) n (fun i=>M.Sc.mk (cI g_2 0 i) (cI g_2 1 i) (cI g_2 2 i) (cI g_2 3 i) (cI g_2 4 i)) m (fun i=>M.Pk.mk (cI g_3 0 i) (cI g_3 1 i) (cI g_3 2 i) (cI g_3 3 i) (cI g_3 4 i) (cI g_3 5 i)) f (M.Pk.mk p_k p_s p_t0 p_t1 p_l0 p_l1) hp)) (.nil) (.cons frzE_ok (.cons (pureE_ok s89) (.cons (specE_ok s52) (.nil)))) (k:=49) (by kernel_rfl) (by kernel_rfl) rfl (fun _=>.nil)) (.cells (.cons (.refl _) (.cons (.refl _) (.cons (.refl _) (.cons (.refl _) (.cons (.refl _) (.cons (.refl _) (.cons (.refl _) (.cons (.refl _) (.cons (.row Hg_1 fun _=>rfl) (.cons (.row Hg_2 fun _=>rfl) (.cons (.row Hg_3 fun _=>rfl) (.cons (.refl _) .nil)))))))))))) .nil)
 ·cases h
def e46a:EntB
 | [.agg [.int .i64 g_w,.int .i64 g_h,.int .i64 g_s,.int .i64 g_v0,.int .i64 g_v1,.int .i64 g_d0,.int .i64 g_d1,.int .i64 g_r],.sl 1 ns g_1,.sl 5 n g_2,.int .i64 f],[]=>some ([Row 1 ns g_1,Row 5 n g_2,M.Gd.Ck (M.Gd.mk g_w g_h g_s g_v0 g_v1 g_d0 g_d1 g_r) ns (cI g_1 0) n (fun i=>M.Sc.mk (cI g_2 0 i) (cI g_2 1 i) (cI g_2 2 i) (cI g_2 3 i) (cI g_2 4 i)) 0 M.P0 f],.tup [.ptr 0 0,SI 0],[.cells [SI (M.Gd.w (M.Gd.mk g_w g_h g_s g_v0 g_v1 g_d0 g_d1 g_r)),SI (M.Gd.h (M.Gd.mk g_w g_h g_s g_v0 g_v1 g_d0 g_d1 g_r)),SI (M.Gd.s (M.Gd.mk g_w g_h g_s g_v0 g_v1 g_d0 g_d1 g_r)),SI (M.Gd.v0 (M.Gd.mk g_w g_h g_s g_v0 g_v1 g_d0 g_d1 g_r)),SI (M.Gd.v1 (M.Gd.mk g_w g_h g_s g_v0 g_v1 g_d0 g_d1 g_r)),SI (M.Gd.d0 (M.Gd.mk g_w g_h g_s g_v0 g_v1 g_d0 g_d1 g_r)),SI (M.Gd.d1 (M.Gd.mk g_w g_h g_s g_v0 g_v1 g_d0 g_d1 g_r)),SI (M.Gd.r (M.Gd.mk g_w g_h g_s g_v0 g_v1 g_d0 g_d1 g_r)),.sl 1 ns (fun k=>[SI ((cI g_1 0) k)]),.sl 5 n (fun k=>[SI (M.Sc.k ((fun i=>M.Sc.mk (cI g_2 0 i) (cI g_2 1 i) (cI g_2 2 i) (cI g_2 3 i) (cI g_2 4 i)) k)),SI (M.Sc.c ((fun i=>M.Sc.mk (cI g_2 0 i) (cI g_2 1 i) (cI g_2 2 i) (cI g_2 3 i) (cI g_2 4 i)) k)),SI (M.Sc.q ((fun i=>M.Sc.mk (cI g_2 0 i) (cI g_2 1 i) (cI g_2 2 i) (cI g_2 3 i) (cI g_2 4 i)) k)),SI (M.Sc.a ((fun i=>M.Sc.mk (cI g_2 0 i) (cI g_2 1 i) (cI g_2 2 i) (cI g_2 3 i) (cI g_2 4 i)) k)),SI (M.Sc.b ((fun i=>M.Sc.mk (cI g_2 0 i) (cI g_2 1 i) (cI g_2 2 i) (cI g_2 3 i) (cI g_2 4 i)) k))]),.lit (.slice none 0 0),SI f]])
 | _,_=>none
def Rr46a (g:M.Gd) (ns:Nat) (x:Nat→Int) (n:Nat) (S:Nat→M.Sc) (f:Int):Prop:=(fun (z1:Int) (z0:Nat)=>(fun (z2:Bool)=>(∀ (k:Nat),k<ns→x k=x k)∧(∀ (k:Nat),k<n→(S k).k=(S k).k∧(S k).c=(S k).c∧(S k).q=(S k).q∧(S k).a=(S k).a∧(S k).b=(S k).b)∧ns≤(100000:Nat)∧n≤(100000:Nat)∧(z2=true→False)∧(z2=false→(∀ (k:Nat),k<ns→true=true)∧z0≤z0∧(z0+ns)*(8:Nat)≤(140737488355328:Nat)∧(∀ (k:Nat),k<n→true=true)∧z0≤z0∧(z0+n)*(40:Nat)≤(140737488355328:Nat)∧z0+(z0+ns)≤z0+ns∧z0+(z0+n)≤z0+n∧z1=z1∧g.w=g.w∧g.h=g.h∧g.s=g.s∧g.v0=g.v0∧g.v1=g.v1∧g.d0=g.d0∧g.d1=g.d1∧g.r=g.r∧(z0+ns=ns∧∀ (k:Nat),k<z0+ns→(bif decide (z0+k<z0) then z1 else x (z0+k-z0))=x k)∧(z0+n=n∧∀ (k:Nat),k<z0+n→(bif decide (z0+k<z0) then z1 else (S (z0+k-z0)).k)=(S k).k∧(bif decide (z0+k<z0) then z1 else (S (z0+k-z0)).c)=(S k).c∧(bif decide (z0+k<z0) then z1 else (S (z0+k-z0)).q)=(S k).q∧(bif decide (z0+k<z0) then z1 else (S (z0+k-z0)).a)=(S k).a∧(bif decide (z0+k<z0) then z1 else (S (z0+k-z0)).b)=(S k).b)∧Value.slice none z0 z0=Value.slice none z0 z0∧f=f∧True)) (!decide (M.Gd.ckE g ns x n S z0 M.P0 f=z1))) (0:Int) (0:Nat)
theorem r46a (g:M.Gd) (ns:Nat) (x:Nat→Int) (n:Nat) (S:Nat→M.Sc) (f:Int):VN true [] [(1000000,frzE),(61,pureE e61n)] Try.f46 [0,1,2,3,4,8,9,10,17] [] [.agg [SI (M.Gd.w g),SI (M.Gd.h g),SI (M.Gd.s g),SI (M.Gd.v0 g),SI (M.Gd.v1 g),SI (M.Gd.d0 g),SI (M.Gd.d1 g),SI (M.Gd.r g)],.sl 1 ns (fun k=>[SI (x k)]),.sl 5 n (fun k=>[SI (M.Sc.k (S k)),SI (M.Sc.c (S k)),SI (M.Sc.q (S k)),SI (M.Sc.a (S k)),SI (M.Sc.b (S k))]),SI f] [] (.tup [.ptr 0 0,SI 0]) [.cells [SI (M.Gd.w g),SI (M.Gd.h g),SI (M.Gd.s g),SI (M.Gd.v0 g),SI (M.Gd.v1 g),SI (M.Gd.d0 g),SI (M.Gd.d1 g),SI (M.Gd.r g),.sl 1 ns (fun k=>[SI (x k)]),.sl 5 n (fun k=>[SI (M.Sc.k (S k)),SI (M.Sc.c (S k)),SI (M.Sc.q (S k)),SI (M.Sc.a (S k)),SI (M.Sc.b (S k))]),.lit (.slice none 0 0),SI f]]=Rr46a g ns x n S f:=by kernel_rfl
theorem br46a (g:M.Gd) (ns:Nat) (x:Nat→Int) (n:Nat) (S:Nat→M.Sc) (f:Int) (hp:(M.Gd.Ck g ns x n S 0 M.P0 f)∧AllP []):Rr46a g ns x n S f:=by
 unfold Rr46a
 dsimp -iota -proj -eta -zeta only
 obtain ⟨hC,-⟩:=id hp
 have e:=M.Gd.ckE_ok.2 hC
 obtain ⟨k1,k2,k3,⟨k4,k5⟩,k6,k7,k8⟩:=id hC
 simp [e,hC]
 omega
theorem s46a:SpecOK PP 46 e46a:=by
 intro xs Hs ps res Hs1 h hp
 unfold e46a at h
 split at h
 ·rename_i g_w g_h g_s g_v0 g_v1 g_d0 g_d1 g_r ns g_1 n g_2 f
  cases h
  simp only [AllP.cons] at hp
  obtain ⟨Hg_1,Hg_2,hp⟩:=hp
  exact Spec.args (enterNH (Hold.of (r46a (M.Gd.mk g_w g_h g_s g_v0 g_v1 g_d0 g_d1 g_r) ns (cI g_1 0) n (fun i=>M.Sc.mk (cI g_2 0 i) (cI g_2 1 i) (cI g_2 2 i) (cI g_2 3 i) (cI g_2 4 i)) f) (br46a (M.Gd.mk g_w g_h g_s g_v0 g_v1 g_d0 g_d1 g_r) ns (cI g_1 0) n (fun i=>M.Sc.mk (cI g_2 0 i) (cI g_2 1 i) (cI g_2 2 i) (cI g_2 3 i) (cI g_2 4 i)) f hp)) (.nil) (.cons frzE_ok (.cons (pureE_ok s61n) (.nil))) (k:=46) (by kernel_rfl) (by kernel_rfl) rfl (fun _=>.nil)) (.cons (.refl _) (.cons (.row Hg_1 fun _=>rfl) (.cons (.row Hg_2 fun _=>rfl) (.cons (.refl _) .nil))))
 ·cases h
def e46b:List SV→Option (List Prop × SV)
 | [.agg [.int .i64 g_w,.int .i64 g_h,.int .i64 g_s,.int .i64 g_v0,.int .i64 g_v1,.int .i64 g_d0,.int .i64 g_d1,.int .i64 g_r],.sl 1 ns g_1,.sl 5 n g_2,.int .i64 f]=>some ([Row 1 ns g_1,Row 5 n g_2,M.Gd.ckE (M.Gd.mk g_w g_h g_s g_v0 g_v1 g_d0 g_d1 g_r) ns (cI g_1 0) n (fun i=>M.Sc.mk (cI g_2 0 i) (cI g_2 1 i) (cI g_2 2 i) (cI g_2 3 i) (cI g_2 4 i)) 0 M.P0 f≠0,ns≤100000,n≤100000],.tup [.lit (.pointer none),SI (M.Gd.ckE (M.Gd.mk g_w g_h g_s g_v0 g_v1 g_d0 g_d1 g_r) ns (cI g_1 0) n (fun i=>M.Sc.mk (cI g_2 0 i) (cI g_2 1 i) (cI g_2 2 i) (cI g_2 3 i) (cI g_2 4 i)) 0 M.P0 f)])
 | _=>none
def Rr46b (g:M.Gd) (ns:Nat) (x:Nat→Int) (n:Nat) (S:Nat→M.Sc) (f:Int):Prop:=(fun (z1:Nat)=>(fun (z0:Int)=>(∀ (k:Nat),k<ns→x k=x k)∧(∀ (k:Nat),k<n→(S k).k=(S k).k∧(S k).c=(S k).c∧(S k).q=(S k).q∧(S k).a=(S k).a∧(S k).b=(S k).b)∧ns≤(100000:Nat)∧n≤(100000:Nat)∧((!decide (z0=(0:Int)))=true→Value.pointer none=Value.pointer none∧z0=z0)∧((!decide (z0=(0:Int)))=false→(∀ (k:Nat),k<ns→true=true)∧z1≤z1∧(z1+ns)*(8:Nat)≤(140737488355328:Nat)∧(∀ (k:Nat),k<n→true=true)∧z1≤z1∧(z1+n)*(40:Nat)≤(140737488355328:Nat)∧False)) (M.Gd.ckE g ns x n S z1 M.P0 f)) (0:Nat)
theorem r46b (g:M.Gd) (ns:Nat) (x:Nat→Int) (n:Nat) (S:Nat→M.Sc) (f:Int):V true [] [(61,pureE e61n)] Try.f46 [0,1,2,3,4,8,9,10,17] [] [.agg [SI (M.Gd.w g),SI (M.Gd.h g),SI (M.Gd.s g),SI (M.Gd.v0 g),SI (M.Gd.v1 g),SI (M.Gd.d0 g),SI (M.Gd.d1 g),SI (M.Gd.r g)],.sl 1 ns (fun k=>[SI (x k)]),.sl 5 n (fun k=>[SI (M.Sc.k (S k)),SI (M.Sc.c (S k)),SI (M.Sc.q (S k)),SI (M.Sc.a (S k)),SI (M.Sc.b (S k))]),SI f] (.tup [.lit (.pointer none),SI (M.Gd.ckE g ns x n S 0 M.P0 f)])=Rr46b g ns x n S f:=by kernel_rfl
theorem br46b (g:M.Gd) (ns:Nat) (x:Nat→Int) (n:Nat) (S:Nat→M.Sc) (f:Int) (hp:(M.Gd.ckE g ns x n S 0 M.P0 f≠0)∧(ns≤100000)∧(n≤100000)∧AllP []):Rr46b g ns x n S f:=by
 unfold Rr46b
 dsimp -iota -proj -eta -zeta only
 obtain ⟨hE,h1,h2,-⟩:=id hp
 simp [hE,h1,h2]
theorem s46b:PureOK PP 46 e46b:=by
 intro xs ps res h hp
 unfold e46b at h
 split at h
 ·rename_i g_w g_h g_s g_v0 g_v1 g_d0 g_d1 g_r ns g_1 n g_2 f
  cases h
  simp only [AllP.cons] at hp
  obtain ⟨Hg_1,Hg_2,hp⟩:=hp
  exact Spec.args (enterH (Hold.of (r46b (M.Gd.mk g_w g_h g_s g_v0 g_v1 g_d0 g_d1 g_r) ns (cI g_1 0) n (fun i=>M.Sc.mk (cI g_2 0 i) (cI g_2 1 i) (cI g_2 2 i) (cI g_2 3 i) (cI g_2 4 i)) f) (br46b (M.Gd.mk g_w g_h g_s g_v0 g_v1 g_d0 g_d1 g_r) ns (cI g_1 0) n (fun i=>M.Sc.mk (cI g_2 0 i) (cI g_2 1 i) (cI g_2 2 i) (cI g_2 3 i) (cI g_2 4 i)) f hp)) (.nil) (.cons (pureE_ok s61n) (.nil)) (k:=46) (by kernel_rfl) (by kernel_rfl) (fun _=>.nil)) (.cons (.refl _) (.cons (.row Hg_1 fun _=>rfl) (.cons (.row Hg_2 fun _=>rfl) (.cons (.refl _) .nil))))
 ·cases h
def e45a:EntB
 | [.agg [.int .i64 g_w,.int .i64 g_h,.int .i64 g_s,.int .i64 g_v0,.int .i64 g_v1,.int .i64 g_d0,.int .i64 g_d1,.int .i64 g_r],.sl 1 ns g_1,.sl 5 n g_2,.int .i64 f],[]=>some ([Row 1 ns g_1,Row 5 n g_2,M.Gd.Ck (M.Gd.mk g_w g_h g_s g_v0 g_v1 g_d0 g_d1 g_r) ns (cI g_1 0) n (fun i=>M.Sc.mk (cI g_2 0 i) (cI g_2 1 i) (cI g_2 2 i) (cI g_2 3 i) (cI g_2 4 i)) 0 M.P0 f],.tup [.ptr 0 0,SI 0],[.cells [SI (M.Gd.w (M.Gd.mk g_w g_h g_s g_v0 g_v1 g_d0 g_d1 g_r)),SI (M.Gd.h (M.Gd.mk g_w g_h g_s g_v0 g_v1 g_d0 g_d1 g_r)),SI (M.Gd.s (M.Gd.mk g_w g_h g_s g_v0 g_v1 g_d0 g_d1 g_r)),SI (M.Gd.v0 (M.Gd.mk g_w g_h g_s g_v0 g_v1 g_d0 g_d1 g_r)),SI (M.Gd.v1 (M.Gd.mk g_w g_h g_s g_v0 g_v1 g_d0 g_d1 g_r)),SI (M.Gd.d0 (M.Gd.mk g_w g_h g_s g_v0 g_v1 g_d0 g_d1 g_r)),SI (M.Gd.d1 (M.Gd.mk g_w g_h g_s g_v0 g_v1 g_d0 g_d1 g_r)),SI (M.Gd.r (M.Gd.mk g_w g_h g_s g_v0 g_v1 g_d0 g_d1 g_r)),.sl 1 ns (fun k=>[SI ((cI g_1 0) k)]),SI f,.bool true,.sl 5 n (fun k=>[SI (M.Sc.k ((fun i=>M.Sc.mk (cI g_2 0 i) (cI g_2 1 i) (cI g_2 2 i) (cI g_2 3 i) (cI g_2 4 i)) k)),SI (M.Sc.c ((fun i=>M.Sc.mk (cI g_2 0 i) (cI g_2 1 i) (cI g_2 2 i) (cI g_2 3 i) (cI g_2 4 i)) k)),SI (M.Sc.q ((fun i=>M.Sc.mk (cI g_2 0 i) (cI g_2 1 i) (cI g_2 2 i) (cI g_2 3 i) (cI g_2 4 i)) k)),SI (M.Sc.a ((fun i=>M.Sc.mk (cI g_2 0 i) (cI g_2 1 i) (cI g_2 2 i) (cI g_2 3 i) (cI g_2 4 i)) k)),SI (M.Sc.b ((fun i=>M.Sc.mk (cI g_2 0 i) (cI g_2 1 i) (cI g_2 2 i) (cI g_2 3 i) (cI g_2 4 i)) k))]),.lit (.slice none 0 0),.sl 5 (M.Gd.leN (M.Gd.mk g_w g_h g_s g_v0 g_v1 g_d0 g_d1 g_r) (cI g_1 0) (fun i=>M.Sc.mk (cI g_2 0 i) (cI g_2 1 i) (cI g_2 2 i) (cI g_2 3 i) (cI g_2 4 i)) 0 M.P0 f n) (fun k=>[SI (M.Gd.leR (M.Gd.mk g_w g_h g_s g_v0 g_v1 g_d0 g_d1 g_r) (cI g_1 0) (fun i=>M.Sc.mk (cI g_2 0 i) (cI g_2 1 i) (cI g_2 2 i) (cI g_2 3 i) (cI g_2 4 i)) 0 M.P0 f n k).k,SI (M.Gd.leR (M.Gd.mk g_w g_h g_s g_v0 g_v1 g_d0 g_d1 g_r) (cI g_1 0) (fun i=>M.Sc.mk (cI g_2 0 i) (cI g_2 1 i) (cI g_2 2 i) (cI g_2 3 i) (cI g_2 4 i)) 0 M.P0 f n k).c,SI (M.Gd.leR (M.Gd.mk g_w g_h g_s g_v0 g_v1 g_d0 g_d1 g_r) (cI g_1 0) (fun i=>M.Sc.mk (cI g_2 0 i) (cI g_2 1 i) (cI g_2 2 i) (cI g_2 3 i) (cI g_2 4 i)) 0 M.P0 f n k).q,SI (M.Gd.leR (M.Gd.mk g_w g_h g_s g_v0 g_v1 g_d0 g_d1 g_r) (cI g_1 0) (fun i=>M.Sc.mk (cI g_2 0 i) (cI g_2 1 i) (cI g_2 2 i) (cI g_2 3 i) (cI g_2 4 i)) 0 M.P0 f n k).a,SI (M.Gd.leR (M.Gd.mk g_w g_h g_s g_v0 g_v1 g_d0 g_d1 g_r) (cI g_1 0) (fun i=>M.Sc.mk (cI g_2 0 i) (cI g_2 1 i) (cI g_2 2 i) (cI g_2 3 i) (cI g_2 4 i)) 0 M.P0 f n k).b])]])
 | _,_=>none
def Rr45a (g:M.Gd) (ns:Nat) (x:Nat→Int) (n:Nat) (S:Nat→M.Sc) (f:Int):Prop:=(fun (z3 z6:Nat) (z0 z2:Prop)=>(fun (z4:Bool) (z5:Nat) (z1:Nat→M.Sc)=>z2∧ns≤z6∧z0∧n≤z6∧z2∧z0∧ns≤z6∧n≤z6∧(z4=true→False)∧(z4=false→z2∧z0∧M.Gd.Ck g ns x n S z3 M.P0 f∧(0:Int)=(0:Int)∧g.w=g.w∧g.h=g.h∧g.s=g.s∧g.v0=g.v0∧g.v1=g.v1∧g.d0=g.d0∧g.d1=g.d1∧g.r=g.r∧(ns=ns∧z2)∧f=f∧true=true∧(n=n∧z0)∧Value.slice none z3 z3=Value.slice none z3 z3∧(z5=z5∧∀ (k:Nat),k<z5→(z1 k).k=(z1 k).k∧(z1 k).c=(z1 k).c∧(z1 k).q=(z1 k).q∧(z1 k).a=(z1 k).a∧(z1 k).b=(z1 k).b)∧True)) (!decide (M.Gd.ckE g ns x n S z3 M.P0 f=(0:Int))) (M.Gd.leN g x S z3 M.P0 f n) (M.Gd.leR g x S z3 M.P0 f n)) (0:Nat) (100000:Nat) (∀ (k:Nat),k<n→(S k).k=(S k).k∧(S k).c=(S k).c∧(S k).q=(S k).q∧(S k).a=(S k).a∧(S k).b=(S k).b) (∀ (k:Nat),k<ns→x k=x k)
theorem r45a (g:M.Gd) (ns:Nat) (x:Nat→Int) (n:Nat) (S:Nat→M.Sc) (f:Int):VN true [] [(1000000,frzE),(76,pureE e76s),(85,pureE e85),(59,pureE e59n),(60,pureE e60n)] Try.f45 [0,1,2,3,4,8,9,10,11,28] [] [.agg [SI (M.Gd.w g),SI (M.Gd.h g),SI (M.Gd.s g),SI (M.Gd.v0 g),SI (M.Gd.v1 g),SI (M.Gd.d0 g),SI (M.Gd.d1 g),SI (M.Gd.r g)],.sl 1 ns (fun k=>[SI (x k)]),.sl 5 n (fun k=>[SI (M.Sc.k (S k)),SI (M.Sc.c (S k)),SI (M.Sc.q (S k)),SI (M.Sc.a (S k)),SI (M.Sc.b (S k))]),SI f] [] (.tup [.ptr 0 0,SI 0]) [.cells [SI (M.Gd.w g),SI (M.Gd.h g),SI (M.Gd.s g),SI (M.Gd.v0 g),SI (M.Gd.v1 g),SI (M.Gd.d0 g),SI (M.Gd.d1 g),SI (M.Gd.r g),.sl 1 ns (fun k=>[SI (x k)]),SI f,.bool true,.sl 5 n (fun k=>[SI (M.Sc.k (S k)),SI (M.Sc.c (S k)),SI (M.Sc.q (S k)),SI (M.Sc.a (S k)),SI (M.Sc.b (S k))]),.lit (.slice none 0 0),.sl 5 (M.Gd.leN g x S 0 M.P0 f n) (fun k=>[SI (M.Gd.leR g x S 0 M.P0 f n k).k,SI (M.Gd.leR g x S 0 M.P0 f n k).c,SI (M.Gd.leR g x S 0 M.P0 f n k).q,SI (M.Gd.leR g x S 0 M.P0 f n k).a,SI (M.Gd.leR g x S 0 M.P0 f n k).b])]]=Rr45a g ns x n S f:=by kernel_rfl
theorem br45a (g:M.Gd) (ns:Nat) (x:Nat→Int) (n:Nat) (S:Nat→M.Sc) (f:Int) (hp:(M.Gd.Ck g ns x n S 0 M.P0 f)∧AllP []):Rr45a g ns x n S f:=by
 unfold Rr45a
 dsimp -iota -proj -eta -zeta only
 obtain ⟨hC,-⟩:=id hp
 have e:=M.Gd.ckE_ok.2 hC
 obtain ⟨k1,k2,k3,⟨k4,k5⟩,k6,k7,k8⟩:=id hC
 simp [e,hC]
 omega
theorem s45a:SpecOK PP 45 e45a:=by
 intro xs Hs ps res Hs1 h hp
 unfold e45a at h
 split at h
 ·rename_i g_w g_h g_s g_v0 g_v1 g_d0 g_d1 g_r ns g_1 n g_2 f
  cases h
  simp only [AllP.cons] at hp
  obtain ⟨Hg_1,Hg_2,hp⟩:=hp
  exact Spec.args (enterNH (Hold.of (r45a (M.Gd.mk g_w g_h g_s g_v0 g_v1 g_d0 g_d1 g_r) ns (cI g_1 0) n (fun i=>M.Sc.mk (cI g_2 0 i) (cI g_2 1 i) (cI g_2 2 i) (cI g_2 3 i) (cI g_2 4 i)) f) (br45a (M.Gd.mk g_w g_h g_s g_v0 g_v1 g_d0 g_d1 g_r) ns (cI g_1 0) n (fun i=>M.Sc.mk (cI g_2 0 i) (cI g_2 1 i) (cI g_2 2 i) (cI g_2 3 i) (cI g_2 4 i)) f hp)) (.nil) (.cons frzE_ok (.cons (pureE_ok s76s) (.cons (pureE_ok s85) (.cons (pureE_ok s59n) (.cons (pureE_ok s60n) (.nil)))))) (k:=45) (by kernel_rfl) (by kernel_rfl) rfl (fun _=>.nil)) (.cons (.refl _) (.cons (.row Hg_1 fun _=>rfl) (.cons (.row Hg_2 fun _=>rfl) (.cons (.refl _) .nil))))
 ·cases h
def e45b:List SV→Option (List Prop × SV)
 | [.agg [.int .i64 g_w,.int .i64 g_h,.int .i64 g_s,.int .i64 g_v0,.int .i64 g_v1,.int .i64 g_d0,.int .i64 g_d1,.int .i64 g_r],.sl 1 ns g_1,.sl 5 n g_2,.int .i64 f]=>some ([Row 1 ns g_1,Row 5 n g_2,M.Gd.ckE (M.Gd.mk g_w g_h g_s g_v0 g_v1 g_d0 g_d1 g_r) ns (cI g_1 0) n (fun i=>M.Sc.mk (cI g_2 0 i) (cI g_2 1 i) (cI g_2 2 i) (cI g_2 3 i) (cI g_2 4 i)) 0 M.P0 f≠0,ns≤100000,n≤100000],.tup [.lit (.pointer none),SI (M.Gd.ckE (M.Gd.mk g_w g_h g_s g_v0 g_v1 g_d0 g_d1 g_r) ns (cI g_1 0) n (fun i=>M.Sc.mk (cI g_2 0 i) (cI g_2 1 i) (cI g_2 2 i) (cI g_2 3 i) (cI g_2 4 i)) 0 M.P0 f)])
 | _=>none
def Rr45b (g:M.Gd) (ns:Nat) (x:Nat→Int) (n:Nat) (S:Nat→M.Sc) (f:Int):Prop:=(fun (z1:Int) (z3:Nat) (z0 z2:Prop)=>z2∧ns≤z3∧z0∧n≤z3∧z2∧z0∧ns≤z3∧n≤z3∧((!decide (z1=(0:Int)))=true→Value.pointer none=Value.pointer none∧z1=z1)∧((!decide (z1=(0:Int)))=false→False)) (M.Gd.ckE g ns x n S (0:Nat) M.P0 f) (100000:Nat) (∀ (k:Nat),k<n→(S k).k=(S k).k∧(S k).c=(S k).c∧(S k).q=(S k).q∧(S k).a=(S k).a∧(S k).b=(S k).b) (∀ (k:Nat),k<ns→x k=x k)
theorem r45b (g:M.Gd) (ns:Nat) (x:Nat→Int) (n:Nat) (S:Nat→M.Sc) (f:Int):V true [] [(76,pureE e76s),(85,pureE e85),(59,pureE e59n)] Try.f45 [0,1,2,3,4,8,9,10,11,28] [] [.agg [SI (M.Gd.w g),SI (M.Gd.h g),SI (M.Gd.s g),SI (M.Gd.v0 g),SI (M.Gd.v1 g),SI (M.Gd.d0 g),SI (M.Gd.d1 g),SI (M.Gd.r g)],.sl 1 ns (fun k=>[SI (x k)]),.sl 5 n (fun k=>[SI (M.Sc.k (S k)),SI (M.Sc.c (S k)),SI (M.Sc.q (S k)),SI (M.Sc.a (S k)),SI (M.Sc.b (S k))]),SI f] (.tup [.lit (.pointer none),SI (M.Gd.ckE g ns x n S 0 M.P0 f)])=Rr45b g ns x n S f:=by kernel_rfl
theorem br45b (g:M.Gd) (ns:Nat) (x:Nat→Int) (n:Nat) (S:Nat→M.Sc) (f:Int) (hp:(M.Gd.ckE g ns x n S 0 M.P0 f≠0)∧(ns≤100000)∧(n≤100000)∧AllP []):Rr45b g ns x n S f:=by
 unfold Rr45b
 dsimp -iota -proj -eta -zeta only
 obtain ⟨hE,h1,h2,-⟩:=id hp
 simp [hE,h1,h2]
theorem s45b:PureOK PP 45 e45b:=by
 intro xs ps res h hp
 unfold e45b at h
 split at h
 ·rename_i g_w g_h g_s g_v0 g_v1 g_d0 g_d1 g_r ns g_1 n g_2 f
  cases h
  simp only [AllP.cons] at hp
  obtain ⟨Hg_1,Hg_2,hp⟩:=hp
  exact Spec.args (enterH (Hold.of (r45b (M.Gd.mk g_w g_h g_s g_v0 g_v1 g_d0 g_d1 g_r) ns (cI g_1 0) n (fun i=>M.Sc.mk (cI g_2 0 i) (cI g_2 1 i) (cI g_2 2 i) (cI g_2 3 i) (cI g_2 4 i)) f) (br45b (M.Gd.mk g_w g_h g_s g_v0 g_v1 g_d0 g_d1 g_r) ns (cI g_1 0) n (fun i=>M.Sc.mk (cI g_2 0 i) (cI g_2 1 i) (cI g_2 2 i) (cI g_2 3 i) (cI g_2 4 i)) f hp)) (.nil) (.cons (pureE_ok s76s) (.cons (pureE_ok s85) (.cons (pureE_ok s59n) (.nil)))) (k:=45) (by kernel_rfl) (by kernel_rfl) (fun _=>.nil)) (.cons (.refl _) (.cons (.row Hg_1 fun _=>rfl) (.cons (.row Hg_2 fun _=>rfl) (.cons (.refl _) .nil))))
 ·cases h
end Go.Proofs.Ytoncoofmijjgeaa.Sep
namespace Go.Proofs.Ytoncoofmijjgeaa.M
structure Act where
 cp:Bool
 k:Int
 s:Int
 t0:Int
 t1:Int
 l0:Int
 l1:Int
def Act.pk (a:Act):Pk:=⟨a.k,a.s,a.t0,a.t1,a.l0,a.l1⟩
def acM (ns:Nat) (a:Act) (m:Nat):Nat:=if a.cp=true then m else adM ns m a.pk
def acP (a:Act) (m:Nat) (P:Nat→Pk):Nat→Pk:=if a.cp=true then P else snP m P a.pk
end Go.Proofs.Ytoncoofmijjgeaa.M
namespace Go.Proofs.Ytoncoofmijjgeaa.Sep
open Go
set_option linter.unusedVariables false
set_option linter.unusedSimpArgs false
def lp14b (g:M.Gd) (ns:Nat) (x:Nat→Int) (n:Nat) (S:Nat→M.Sc) (f:Int) (na:Nat) (B:Nat→M.Act) (i m:Nat) (P:Nat→M.Pk):LoopS where
 ι:=Nat
 β:=Unit
 pre k:=k≤m∧m≤64
 μ k:=m-k
 next k _ _ _:=k+1
 out _:=()
 early _:=false
 SA k:=[(4,.sl 7 na (fun k=>[.bool (M.Act.cp (B k)),SI (M.Act.k (B k)),SI (M.Act.s (B k)),SI (M.Act.t0 (B k)),SI (M.Act.t1 (B k)),SI (M.Act.l0 (B k)),SI (M.Act.l1 (B k))])),(10,.bool false),(11,.ptr 0 0),(13,.ptr 1 0),(15,SI i),(21,.sl 6 m (fun k=>[SI (M.Pk.k (P k)),SI (M.Pk.s (P k)),SI (M.Pk.t0 (P k)),SI (M.Pk.t1 (P k)),SI (M.Pk.l0 (P k)),SI (M.Pk.l1 (P k))])),(22,SI k)]
 SH _:=[(0,.cells [SI (M.Gd.w g),SI (M.Gd.h g),SI (M.Gd.s g),SI (M.Gd.v0 g),SI (M.Gd.v1 g),SI (M.Gd.d0 g),SI (M.Gd.d1 g),SI (M.Gd.r g),.sl 1 ns (fun k=>[SI (x k)]),SI f,.bool true,.sl 5 n (fun k=>[SI (M.Sc.k (S k)),SI (M.Sc.c (S k)),SI (M.Sc.q (S k)),SI (M.Sc.a (S k)),SI (M.Sc.b (S k))]),.sl 6 m (fun k=>[SI (M.Pk.k (P k)),SI (M.Pk.s (P k)),SI (M.Pk.t0 (P k)),SI (M.Pk.t1 (P k)),SI (M.Pk.l0 (P k)),SI (M.Pk.l1 (P k))]),.sl 5 (M.Gd.leN g x S m P f n) (fun k=>[SI (M.Gd.leR g x S m P f n k).k,SI (M.Gd.leR g x S m P f n k).c,SI (M.Gd.leR g x S m P f n k).q,SI (M.Gd.leR g x S m P f n k).a,SI (M.Gd.leR g x S m P f n k).b])]),(1,.cells [SI (M.Gd.w g),SI (M.Gd.h g),SI (M.Gd.s g),SI (M.Gd.v0 g),SI (M.Gd.v1 g),SI (M.Gd.d0 g),SI (M.Gd.d1 g),SI (M.Gd.r g),.sl 1 ns (fun k=>[SI (x k)]),.sl 5 n (fun k=>[SI (M.Sc.k (S k)),SI (M.Sc.c (S k)),SI (M.Sc.q (S k)),SI (M.Sc.a (S k)),SI (M.Sc.b (S k))]),.sl 6 m (fun k=>[SI (M.Pk.k (P k)),SI (M.Pk.s (P k)),SI (M.Pk.t0 (P k)),SI (M.Pk.t1 (P k)),SI (M.Pk.l0 (P k)),SI (M.Pk.l1 (P k))]),SI f])]
 n0:=2
 NA _:=[(4,.sl 7 na (fun k=>[.bool (M.Act.cp (B k)),SI (M.Act.k (B k)),SI (M.Act.s (B k)),SI (M.Act.t0 (B k)),SI (M.Act.t1 (B k)),SI (M.Act.l0 (B k)),SI (M.Act.l1 (B k))])),(10,.bool false),(11,.ptr 0 0),(13,.ptr 1 0),(15,SI i)]
 NH _:=[(0,.cells [SI (M.Gd.w g),SI (M.Gd.h g),SI (M.Gd.s g),SI (M.Gd.v0 g),SI (M.Gd.v1 g),SI (M.Gd.d0 g),SI (M.Gd.d1 g),SI (M.Gd.r g),.sl 1 ns (fun k=>[SI (x k)]),SI f,.bool true,.sl 5 n (fun k=>[SI (M.Sc.k (S k)),SI (M.Sc.c (S k)),SI (M.Sc.q (S k)),SI (M.Sc.a (S k)),SI (M.Sc.b (S k))]),.sl 6 m (fun k=>[SI (M.Pk.k (P k)),SI (M.Pk.s (P k)),SI (M.Pk.t0 (P k)),SI (M.Pk.t1 (P k)),SI (M.Pk.l0 (P k)),SI (M.Pk.l1 (P k))]),.sl 5 (M.Gd.leN g x S m P f n) (fun k=>[SI (M.Gd.leR g x S m P f n k).k,SI (M.Gd.leR g x S m P f n k).c,SI (M.Gd.leR g x S m P f n k).q,SI (M.Gd.leR g x S m P f n k).a,SI (M.Gd.leR g x S m P f n k).b])]),(1,.cells [SI (M.Gd.w g),SI (M.Gd.h g),SI (M.Gd.s g),SI (M.Gd.v0 g),SI (M.Gd.v1 g),SI (M.Gd.d0 g),SI (M.Gd.d1 g),SI (M.Gd.r g),.sl 1 ns (fun k=>[SI (x k)]),.sl 5 n (fun k=>[SI (M.Sc.k (S k)),SI (M.Sc.c (S k)),SI (M.Sc.q (S k)),SI (M.Sc.a (S k)),SI (M.Sc.b (S k))]),.sl 6 m (fun k=>[SI (M.Pk.k (P k)),SI (M.Pk.s (P k)),SI (M.Pk.t0 (P k)),SI (M.Pk.t1 (P k)),SI (M.Pk.l0 (P k)),SI (M.Pk.l1 (P k))]),SI f])]
 n1:=2
 RA _:=[]
 RH _:=[]
def Rq14b (g:M.Gd) (ns:Nat) (x:Nat→Int) (n:Nat) (S:Nat→M.Sc) (f:Int) (na:Nat) (B:Nat→M.Act) (i m:Nat) (P:Nat→M.Pk) (k:Nat):Prop:=(fun (z4 z5 z6:Int) (z0 z2:Prop)=>(fun (z1:M.Pk)=>(fun (z3:Bool)=>(decide (z4<z5)=true→(0:Int)≤z4∧z4<z5∧Int.toNat z4<m∧(0:Int)≤z4∧z4<z5∧Int.toNat z4<m∧(z3=true→false=true∧True)∧(z3=false→R64 (z4+(1:Int))∧(k+(1:Nat)≤m∧m≤(64:Nat))∧m-(k+(1:Nat))<m-k∧()=()∧z2∧false=false∧z6=z6∧(m=m∧∀ (k:Nat),k<m→(P k).k=(P k).k∧(P k).s=(P k).s∧(P k).t0=(P k).t0∧(P k).t1=(P k).t1∧(P k).l0=(P k).l0∧(P k).l1=(P k).l1)∧z4+(1:Int)=(↑(k+(1:Nat)):Int)∧z0))∧(decide (z4<z5)=false→false=false∧z2∧false=false∧z6=z6∧z0)) (!(decide (z1.k=z1.k) && (decide (z1.s=z1.s) && (decide (z1.t0=z1.t0) && (decide (z1.t1=z1.t1) && (decide (z1.l0=z1.l0) && (decide (z1.l1=z1.l1) && true)))))))) (P (Int.toNat z4))) (↑k:Int) (↑m:Int) (↑i:Int) (g.w=g.w∧g.h=g.h∧g.s=g.s∧g.v0=g.v0∧g.v1=g.v1∧g.d0=g.d0∧g.d1=g.d1∧g.r=g.r∧(ns=ns∧∀ (k:Nat),k<ns→x k=x k)∧f=f∧true=true∧(n=n∧∀ (k:Nat),k<n→(S k).k=(S k).k∧(S k).c=(S k).c∧(S k).q=(S k).q∧(S k).a=(S k).a∧(S k).b=(S k).b)∧(m=m∧∀ (k:Nat),k<m→(P k).k=(P k).k∧(P k).s=(P k).s∧(P k).t0=(P k).t0∧(P k).t1=(P k).t1∧(P k).l0=(P k).l0∧(P k).l1=(P k).l1)∧(M.Gd.leN g x S m P f n=M.Gd.leN g x S m P f n∧∀ (k:Nat),k<M.Gd.leN g x S m P f n→(M.Gd.leR g x S m P f n k).k=(M.Gd.leR g x S m P f n k).k∧(M.Gd.leR g x S m P f n k).c=(M.Gd.leR g x S m P f n k).c∧(M.Gd.leR g x S m P f n k).q=(M.Gd.leR g x S m P f n k).q∧(M.Gd.leR g x S m P f n k).a=(M.Gd.leR g x S m P f n k).a∧(M.Gd.leR g x S m P f n k).b=(M.Gd.leR g x S m P f n k).b)∧g.w=g.w∧g.h=g.h∧g.s=g.s∧g.v0=g.v0∧g.v1=g.v1∧g.d0=g.d0∧g.d1=g.d1∧g.r=g.r∧(ns=ns∧∀ (k:Nat),k<ns→x k=x k)∧(n=n∧∀ (k:Nat),k<n→(S k).k=(S k).k∧(S k).c=(S k).c∧(S k).q=(S k).q∧(S k).a=(S k).a∧(S k).b=(S k).b)∧(m=m∧∀ (k:Nat),k<m→(P k).k=(P k).k∧(P k).s=(P k).s∧(P k).t0=(P k).t0∧(P k).t1=(P k).t1∧(P k).l0=(P k).l0∧(P k).l1=(P k).l1)∧f=f∧True) (na=na∧∀ (k:Nat),k<na→(B k).cp=(B k).cp∧(B k).k=(B k).k∧(B k).s=(B k).s∧(B k).t0=(B k).t0∧(B k).t1=(B k).t1∧(B k).l0=(B k).l0∧(B k).l1=(B k).l1)
theorem q14b (g:M.Gd) (ns:Nat) (x:Nat→Int) (n:Nat) (S:Nat→M.Sc) (f:Int) (na:Nat) (B:Nat→M.Act) (i m:Nat) (P:Nat→M.Pk) (k:Nat):VL true eqs [] YS.none Try.f14 0 [0,1,2,3,4,5,10,11,12,13,14,15,16,17,18,19,20,21,22,35,62,64,69,76,114,132,136,150] [] 2 (lp14b g ns x n S f na B i m P) (k)=Rq14b g ns x n S f na B i m P k:=by kernel_rfl
theorem peq14b (g:M.Gd) (ns:Nat) (x:Nat→Int) (n:Nat) (S:Nat→M.Sc) (f:Int) (na:Nat) (B:Nat→M.Act) (i m:Nat) (P:Nat→M.Pk) (k:Nat):(lp14b g ns x n S f na B i m P).pre (k)=(k≤m∧m≤(64:Nat)):=by kernel_rfl
theorem bq14b (g:M.Gd) (ns:Nat) (x:Nat→Int) (n:Nat) (S:Nat→M.Sc) (f:Int) (na:Nat) (B:Nat→M.Act) (i m:Nat) (P:Nat→M.Pk) (k:Nat) (hp:k≤m∧m≤(64:Nat)):Rq14b g ns x n S f na B i m P k:=by
 unfold Rq14b
 dsimp -iota -proj -eta -zeta only
 obtain ⟨h1,h2⟩:=id hp
 have r1:R64 ((k:Int)+1):=by unfold R64; omega
 simp only [Int.toNat_natCast,r1]
 by_cases hl:k<m
 ·have hl':(k:Int)<m:=by omega
  simp [hl,hl',h2]
  omega
 ·have e:k=m:=by omega
  simp [e]
theorem t14b (g:M.Gd) (ns:Nat) (x:Nat→Int) (n:Nat) (S:Nat→M.Sc) (f:Int) (na:Nat) (B:Nat→M.Act) (i m:Nat) (P:Nat→M.Pk) {F:Fence} (hF:FOK F) (Y:YEnv PP YS.none):∀ Q A H nx,loopT false Try.f14.ntmps 0 (lp14b g ns x n S f na B i m P) (fun _ _ _=>(0:Nat)) Q A H nx→WPS Y F Try.f14.ntmps 0 (.block 2 (blkAt 2 Try.f14)) Q A H nx :=
 loopW (E:=eqs) (eqsok) (O:=[]) (.nil) (ck:=true) (L:=[0,1,2,3,4,5,10,11,12,13,14,15,16,17,18,19,20,21,22,35,62,64,69,76,114,132,136,150]) (f:=Try.f14) (m:=0) (id:=2) (l:=(lp14b g ns x n S f na B i m P)) (LI:=fun i=>[]) Y hF (by kernel_rfl) (fun _=>.nil) (by
  rintro k hp
  exact Hold.of (q14b g ns x n S f na B i m P k) (bq14b g ns x n S f na B i m P k ((peq14b g ns x n S f na B i m P k).mp hp)))
def lp14 (g:M.Gd) (ns:Nat) (x:Nat→Int) (n:Nat) (S:Nat→M.Sc) (f:Int) (na:Nat) (B:Nat→M.Act):LoopS where
 ι:=Nat × Nat × (Nat→M.Pk)
 β:=Unit
 pre s:=s.1≤na∧na≤30∧M.Gd.Ck g ns x n S s.2.1 s.2.2 f
 μ s:=na-s.1
 next s _ _ _:=(s.1+1,M.acM ns (B s.1) s.2.1,M.acP (B s.1) s.2.1 s.2.2)
 out _:=()
 early _:=false
 SA s:=[(4,.sl 7 na (fun k=>[.bool (M.Act.cp (B k)),SI (M.Act.k (B k)),SI (M.Act.s (B k)),SI (M.Act.t0 (B k)),SI (M.Act.t1 (B k)),SI (M.Act.l0 (B k)),SI (M.Act.l1 (B k))])),(10,.bool false),(11,.ptr 0 0),(13,.ptr 1 0),(15,SI s.1)]
 SH s:=[(0,.cells [SI (M.Gd.w g),SI (M.Gd.h g),SI (M.Gd.s g),SI (M.Gd.v0 g),SI (M.Gd.v1 g),SI (M.Gd.d0 g),SI (M.Gd.d1 g),SI (M.Gd.r g),.sl 1 ns (fun k=>[SI (x k)]),SI f,.bool true,.sl 5 n (fun k=>[SI (M.Sc.k (S k)),SI (M.Sc.c (S k)),SI (M.Sc.q (S k)),SI (M.Sc.a (S k)),SI (M.Sc.b (S k))]),.sl 6 s.2.1 (fun k=>[SI (M.Pk.k (s.2.2 k)),SI (M.Pk.s (s.2.2 k)),SI (M.Pk.t0 (s.2.2 k)),SI (M.Pk.t1 (s.2.2 k)),SI (M.Pk.l0 (s.2.2 k)),SI (M.Pk.l1 (s.2.2 k))]),.sl 5 (M.Gd.leN g x S s.2.1 s.2.2 f n) (fun k=>[SI (M.Gd.leR g x S s.2.1 s.2.2 f n k).k,SI (M.Gd.leR g x S s.2.1 s.2.2 f n k).c,SI (M.Gd.leR g x S s.2.1 s.2.2 f n k).q,SI (M.Gd.leR g x S s.2.1 s.2.2 f n k).a,SI (M.Gd.leR g x S s.2.1 s.2.2 f n k).b])]),(1,.cells [SI (M.Gd.w g),SI (M.Gd.h g),SI (M.Gd.s g),SI (M.Gd.v0 g),SI (M.Gd.v1 g),SI (M.Gd.d0 g),SI (M.Gd.d1 g),SI (M.Gd.r g),.sl 1 ns (fun k=>[SI (x k)]),.sl 5 n (fun k=>[SI (M.Sc.k (S k)),SI (M.Sc.c (S k)),SI (M.Sc.q (S k)),SI (M.Sc.a (S k)),SI (M.Sc.b (S k))]),.sl 6 s.2.1 (fun k=>[SI (M.Pk.k (s.2.2 k)),SI (M.Pk.s (s.2.2 k)),SI (M.Pk.t0 (s.2.2 k)),SI (M.Pk.t1 (s.2.2 k)),SI (M.Pk.l0 (s.2.2 k)),SI (M.Pk.l1 (s.2.2 k))]),SI f])]
 n0:=2
 NA _:=[]
 NH _:=[]
 n1:=0
 RA _:=[]
 RH _:=[]
def Rq14 (g:M.Gd) (ns:Nat) (x:Nat→Int) (n:Nat) (S:Nat→M.Sc) (f:Int) (na:Nat) (B:Nat→M.Act) (i m:Nat) (P:Nat→M.Pk):Prop:=(fun (z24:Bool) (z18 z27:Int) (z15 z21 z22:Nat) (z17:Nat→M.Sc) (z5 z6 z12 z13 z16 z23 z34 z35:Prop)=>(fun (z26 z33:Nat) (z11:Nat→M.Sc) (z3 z10 z28 z29 z30 z31 z36:Prop)=>(fun (z0:M.Pk) (z1:Prop)=>(fun (z20:Bool) (z2:Int) (z14:Nat) (z4:Nat→M.Sc) (z7 z8:Prop)=>(fun (z19:Bool) (z9:Prop)=>(fun (z25:Bool) (z32:Prop)=>(decide (z18<z27)=true→z29∧z18<z27∧z26<na∧((B z26).cp=true→z13∧z5∧z6∧z3∧z29∧z18<z27∧z26<na∧z13∧z5∧z6∧z3∧z23∧z15=z15∧z30∧z13∧z5∧z6∧z3∧m≤z21∧z13∧z5∧z6∧z3∧z15≤z21∧z13∧z5∧z6∧z23∧z3∧z3∧z15≤z21∧z15≤z21∧M.same z15 z15 z17 z17=true∧z12∧z12∧z12∧z12∧z12∧z12∧z12∧z34∧(z24=true→z35)∧(z24=false→z31∧(z16∧false=false∧z18=z18∧z10∧(0:Int)=(↑(0:Nat):Int)∧g.w=g.w∧g.h=g.h∧g.s=g.s∧g.v0=g.v0∧g.v1=g.v1∧g.d0=g.d0∧g.d1=g.d1∧g.r=g.r∧z28∧f=f∧true=true∧z36∧z10∧(z15=z33∧∀ (k:Nat),k<z15→(z17 k).k=(z11 k).k∧(z17 k).c=(z11 k).c∧(z17 k).q=(z11 k).q∧(z17 k).a=(z11 k).a∧(z17 k).b=(z11 k).b)∧g.w=g.w∧g.h=g.h∧g.s=g.s∧g.v0=g.v0∧g.v1=g.v1∧g.d0=g.d0∧g.d1=g.d1∧g.r=g.r∧z28∧z36∧z10∧f=f∧True)∧z1))∧((B z26).cp=false→z29∧z18<z27∧z26<na∧z13∧z5∧z6∧z3∧z23∧z15=z15∧z30∧z29∧z18<z27∧z26<na∧z13∧z5∧z6∧z23∧(z32→z32)∧(z32→z32)∧(z19=false→z32)∧(z25=true→z35)∧(z25=false→z13∧z5∧z8∧z9∧M.adM ns m z0≤z21∧z13∧z5∧z8∧z9∧z14≤z21∧z13∧z5∧z8∧M.Gd.Ck g ns x n S (M.adM ns m z0) (M.snP m P z0) f∧z9∧z9∧z14≤z21∧z14≤z21∧M.same z14 z14 z4 z4=true∧z12∧z12∧z12∧z12∧z12∧z12∧z12∧z34∧(z20=true→z35)∧(z20=false→z31∧(z16∧false=false∧z18=z18∧z7∧(0:Int)=(↑(0:Nat):Int)∧g.w=g.w∧g.h=g.h∧g.s=g.s∧g.v0=g.v0∧g.v1=g.v1∧g.d0=g.d0∧g.d1=g.d1∧g.r=g.r∧z28∧f=f∧true=true∧z36∧z7∧(z14=z33∧∀ (k:Nat),k<z14→(z4 k).k=(z11 k).k∧(z4 k).c=(z11 k).c∧(z4 k).q=(z11 k).q∧(z4 k).a=(z11 k).a∧(z4 k).b=(z11 k).b)∧g.w=g.w∧g.h=g.h∧g.s=g.s∧g.v0=g.v0∧g.v1=g.v1∧g.d0=g.d0∧g.d1=g.d1∧g.r=g.r∧z28∧z36∧z7∧f=f∧True)∧z1))))∧(decide (z18<z27)=false→false=false∧True)) (bif z19 then true else !decide (M.adE ns m z0=M.adE ns m z0)) ((!z19)=true)) (!decide (z2=z2)) (∀ (k:Nat),k<z14→(z4 k).k=(z4 k).k∧(z4 k).c=(z4 k).c∧(z4 k).q=(z4 k).q∧(z4 k).a=(z4 k).a∧(z4 k).b=(z4 k).b)) (bif !true then true else !decide ((↑(M.adM ns m z0):Int)=(↑(M.adM ns m z0):Int))) (if M.adE ns m z0=(0:Int) then (↑z15:Int)-(↑(M.Gd.leN g x S (m+(1:Nat)) (M.snP m P z0) f n):Int) else (0:Int)) (M.Gd.leN g x S (M.adM ns m z0) (M.snP m P z0) f n) (M.Gd.leR g x S (M.adM ns m z0) (M.snP m P z0) f n) (M.adM ns m z0=z22∧∀ (k:Nat),k<M.adM ns m z0→(M.snP m P z0 k).k=(M.acP (B i) m P k).k∧(M.snP m P z0 k).s=(M.acP (B i) m P k).s∧(M.snP m P z0 k).t0=(M.acP (B i) m P k).t0∧(M.snP m P z0 k).t1=(M.acP (B i) m P k).t1∧(M.snP m P z0 k).l0=(M.acP (B i) m P k).l0∧(M.snP m P z0 k).l1=(M.acP (B i) m P k).l1) (∀ (k:Nat),k<M.adM ns m z0→(M.snP m P z0 k).k=(M.snP m P z0 k).k∧(M.snP m P z0 k).s=(M.snP m P z0 k).s∧(M.snP m P z0 k).t0=(M.snP m P z0 k).t0∧(M.snP m P z0 k).t1=(M.snP m P z0 k).t1∧(M.snP m P z0 k).l0=(M.snP m P z0 k).l0∧(M.snP m P z0 k).l1=(M.snP m P z0 k).l1)) (M.Pk.mk (B z26).k (B z26).s (B z26).t0 (B z26).t1 (B z26).l0 (B z26).l1) ((false=false→R64 (z18+(1:Int))∧(i+(1:Nat)≤na∧na≤(30:Nat)∧M.Gd.Ck g ns x n S z22 (M.acP (B i) m P) f)∧na-(i+(1:Nat))<na-i∧()=()∧z16∧false=false∧z18+(1:Int)=(↑(i+(1:Nat)):Int)∧g.w=g.w∧g.h=g.h∧g.s=g.s∧g.v0=g.v0∧g.v1=g.v1∧g.d0=g.d0∧g.d1=g.d1∧g.r=g.r∧z28∧f=f∧true=true∧z36∧(z22=z22∧∀ (k:Nat),k<z22→(M.acP (B i) m P k).k=(M.acP (B i) m P k).k∧(M.acP (B i) m P k).s=(M.acP (B i) m P k).s∧(M.acP (B i) m P k).t0=(M.acP (B i) m P k).t0∧(M.acP (B i) m P k).t1=(M.acP (B i) m P k).t1∧(M.acP (B i) m P k).l0=(M.acP (B i) m P k).l0∧(M.acP (B i) m P k).l1=(M.acP (B i) m P k).l1)∧(z33=z33∧∀ (k:Nat),k<z33→(z11 k).k=(z11 k).k∧(z11 k).c=(z11 k).c∧(z11 k).q=(z11 k).q∧(z11 k).a=(z11 k).a∧(z11 k).b=(z11 k).b)∧g.w=g.w∧g.h=g.h∧g.s=g.s∧g.v0=g.v0∧g.v1=g.v1∧g.d0=g.d0∧g.d1=g.d1∧g.r=g.r∧z28∧z36∧(z22=z22∧∀ (k:Nat),k<z22→(M.acP (B i) m P k).k=(M.acP (B i) m P k).k∧(M.acP (B i) m P k).s=(M.acP (B i) m P k).s∧(M.acP (B i) m P k).t0=(M.acP (B i) m P k).t0∧(M.acP (B i) m P k).t1=(M.acP (B i) m P k).t1∧(M.acP (B i) m P k).l0=(M.acP (B i) m P k).l0∧(M.acP (B i) m P k).l1=(M.acP (B i) m P k).l1)∧f=f∧True)∧(false=true→z35))) (Int.toNat z18) (M.Gd.leN g x S z22 (M.acP (B i) m P) f n) (M.Gd.leR g x S z22 (M.acP (B i) m P) f n) (∀ (k:Nat),k<z15→(z17 k).k=(z17 k).k∧(z17 k).c=(z17 k).c∧(z17 k).q=(z17 k).q∧(z17 k).a=(z17 k).a∧(z17 k).b=(z17 k).b) (m=z22∧∀ (k:Nat),k<m→(P k).k=(M.acP (B i) m P k).k∧(P k).s=(M.acP (B i) m P k).s∧(P k).t0=(M.acP (B i) m P k).t0∧(P k).t1=(M.acP (B i) m P k).t1∧(P k).l0=(M.acP (B i) m P k).l0∧(P k).l1=(M.acP (B i) m P k).l1) (ns=ns∧z13) ((0:Int)≤z18) (∀ (k:Nat),k<z15→z17 k=z17 k) ((0:Nat)≤z22∧z22≤(64:Nat)) (n=n∧z5)) (bif !true then true else !decide ((↑m:Int)=(↑m:Int))) (↑i:Int) (↑na:Int) (M.Gd.leN g x S m P f n) (100000:Nat) (M.acM ns (B i) m) (M.Gd.leR g x S m P f n) (∀ (k:Nat),k<n→(S k).k=(S k).k∧(S k).c=(S k).c∧(S k).q=(S k).q∧(S k).a=(S k).a∧(S k).b=(S k).b) (∀ (k:Nat),k<m→(P k).k=(P k).k∧(P k).s=(P k).s∧(P k).t0=(P k).t0∧(P k).t1=(P k).t1∧(P k).l0=(P k).l0∧(P k).l1=(P k).l1) ((!!true)=true→(!!true)=true) (∀ (k:Nat),k<ns→x k=x k) (na=na∧∀ (k:Nat),k<na→(B k).cp=(B k).cp∧(B k).k=(B k).k∧(B k).s=(B k).s∧(B k).t0=(B k).t0∧(B k).t1=(B k).t1∧(B k).l0=(B k).l0∧(B k).l1=(B k).l1) (M.Gd.Ck g ns x n S m P f) ((!true)=false→(!!true)=true) (false=true∧True)
theorem q14 (g:M.Gd) (ns:Nat) (x:Nat→Int) (n:Nat) (S:Nat→M.Sc) (f:Int) (na:Nat) (B:Nat→M.Act) (i m:Nat) (P:Nat→M.Pk):VL true [] [(21,pureE e21t),(47,specE e47),(48,specE e48),(49,specE e49),(50,specE e50),(51,specE e51),(52,specE e52)] YS.none Try.f14 0 [0,1,2,3,4,5,10,11,12,13,14,15,16,17,18,19,20,21,22,35,62,64,69,76,114,132,136,150] [(2,loopT false Try.f14.ntmps 0 (lp14b g ns x n S f na B i (M.acM ns (B i) m) (M.acP (B i) m P)) (fun _ _ _=>(0:Nat)))] 0 (lp14 g ns x n S f na B) ((i,m,P))=Rq14 g ns x n S f na B i m P:=by kernel_rfl
theorem peq14 (g:M.Gd) (ns:Nat) (x:Nat→Int) (n:Nat) (S:Nat→M.Sc) (f:Int) (na:Nat) (B:Nat→M.Act) (i m:Nat) (P:Nat→M.Pk):(lp14 g ns x n S f na B).pre ((i,m,P))=(i≤na∧na≤(30:Nat)∧M.Gd.Ck g ns x n S m P f):=by kernel_rfl
theorem bq14 (g:M.Gd) (ns:Nat) (x:Nat→Int) (n:Nat) (S:Nat→M.Sc) (f:Int) (na:Nat) (B:Nat→M.Act) (i m:Nat) (P:Nat→M.Pk) (hp:i≤na∧na≤(30:Nat)∧M.Gd.Ck g ns x n S m P f):Rq14 g ns x n S f na B i m P:=by
 unfold Rq14
 dsimp -iota -proj -eta -zeta only
 obtain ⟨h1,h2,hC⟩:=id hp
 have r1:R64 ((i:Int)+1):=by unfold R64; omega
 simp only [Int.toNat_natCast,r1]
 by_cases hl:i<na
 ·have hl':(i:Int)<na:=by omega
  have ep:M.Pk.mk (B i).k (B i).s (B i).t0 (B i).t1 (B i).l0 (B i).l1=(B i).pk:=rfl
  have hC2:=M.ck_ad (p:=(B i).pk) hC
  have hsame:∀ (N:Nat) (R:Nat→M.Sc),M.same N N R R=true:=fun N R=>M.same_iff.2 ⟨rfl,fun _ _=>rfl⟩
  have hm:=hC.2.2.2.2.1
  have hm2:=hC2.2.2.2.2.1
  have l1:=M.Gd.leN_le (g:=g) (x:=x) (s:=S) (m:=m) (P:=P) (f:=f) n
  have l2:=M.Gd.leN_le (g:=g) (x:=x) (s:=S) (m:=M.adM ns m (B i).pk) (P:=M.snP m P (B i).pk) (f:=f) n
  have hn:=hC.2.2.2.1.1
  simp only [ep,hsame]
  cases hcp:(B i).cp with
  | true =>
   have eM:M.acM ns (B i) m=m:=by unfold M.acM; rw [hcp]; rfl
   have eP:M.acP (B i) m P=P:=by unfold M.acP; rw [hcp]; rfl
   simp only [eM,eP]
   simp [hl,hl',hC]
   omega
  | false =>
   have eM:M.acM ns (B i) m=M.adM ns m (B i).pk:=by unfold M.acM; rw [hcp]; rfl
   have eP:M.acP (B i) m P=M.snP m P (B i).pk:=by unfold M.acP; rw [hcp]; rfl
   simp only [eM,eP]
   simp [hl,hl',hC,hC2]
   omega
 ·have e:i=na:=by omega
  simp [e]
theorem t14 (g:M.Gd) (ns:Nat) (x:Nat→Int) (n:Nat) (S:Nat→M.Sc) (f:Int) (na:Nat) (B:Nat→M.Act) {F:Fence} (hF:FOK F) (Y:YEnv PP YS.none):∀ Q A H nx,loopT false Try.f14.ntmps 0 (lp14 g ns x n S f na B) (fun _ _ _=>((0:Nat),(0:Nat),M.P0)) Q A H nx→WPS Y F Try.f14.ntmps 0 (.block 0 (blkAt 0 Try.f14)) Q A H nx :=
 loopW (E:=[]) (.nil) (O:=[(21,pureE e21t),(47,specE e47),(48,specE e48),(49,specE e49),(50,specE e50),(51,specE e51),(52,specE e52)]) (.cons (pureE_ok s21t) (.cons (specE_ok s47) (.cons (specE_ok s48) (.cons (specE_ok s49) (.cons (specE_ok s50) (.cons (specE_ok s51) (.cons (specE_ok s52) (.nil)))))))) (ck:=true) (L:=[0,1,2,3,4,5,10,11,12,13,14,15,16,17,18,19,20,21,22,35,62,64,69,76,114,132,136,150]) (f:=Try.f14) (m:=0) (id:=0) (l:=(lp14 g ns x n S f na B)) (LI:=fun | (i,m,P)=>[(2,loopT false Try.f14.ntmps 0 (lp14b g ns x n S f na B i (M.acM ns (B i) m) (M.acP (B i) m P)) (fun _ _ _=>(0:Nat)))]) Y hF (by kernel_rfl) (fun | (i,m,P)=>.cons (by kernel_rfl) (t14b g ns x n S f na B i (M.acM ns (B i) m) (M.acP (B i) m P) hF Y) (.nil)) (by
  rintro ⟨i,m,P⟩ hp
  exact Hold.of (q14 g ns x n S f na B i m P) (bq14 g ns x n S f na B i m P ((peq14 g ns x n S f na B i m P).mp hp)))
def e14a:List SV→Option (List Prop × SV)
 | [.agg [.int .i64 g_w,.int .i64 g_h,.int .i64 g_s,.int .i64 g_v0,.int .i64 g_v1,.int .i64 g_d0,.int .i64 g_d1,.int .i64 g_r],.sl 1 ns g_1,.sl 5 n g_2,.int .i64 f,.sl 7 na g_3]=>some ([Row 1 ns g_1,Row 5 n g_2,RowM [true,false,false,false,false,false,false] na g_3,M.Gd.ckE (M.Gd.mk g_w g_h g_s g_v0 g_v1 g_d0 g_d1 g_r) ns (cI g_1 0) n (fun i=>M.Sc.mk (cI g_2 0 i) (cI g_2 1 i) (cI g_2 2 i) (cI g_2 3 i) (cI g_2 4 i)) 0 M.P0 f≠0],.bool true)
 | _=>none
def Rr14a (g:M.Gd) (ns:Nat) (x:Nat→Int) (n:Nat) (S:Nat→M.Sc) (f:Int) (na:Nat) (B:Nat→M.Act):Prop:=(fun (z1:Bool) (z0:Int) (z9:Nat) (z3 z4 z8:Prop)=>(fun (z5 z6:Bool) (z2 z7:Prop)=>(z3→z3)∧(z3→z3)∧(decide ((70:Int)<(↑ns:Int))=false→z3)∧(z7→z7)∧(z7→z7)∧(z1=false→z7)∧(z6=true→true=true)∧(z6=false→z8∧z4∧z0≠(0:Int)∧ns≤z9∧n≤z9∧z8∧z4∧z0≠(0:Int)∧ns≤z9∧n≤z9∧(z2→z2)∧(z2→z2)∧(z2→z2)∧(z2→z2)∧((!decide (z0=z0))=false→z2)∧(z5=true→false=true)∧(z5=false→((!decide (z0=(0:Int)))=true→true=true)∧((!decide (z0=(0:Int)))=false→False)))) (bif !decide (z0=z0) then true else !(!true) == decide (z0=(0:Int))) (bif z1 then true else decide ((30:Int)<(↑na:Int))) ((!!decide (z0=z0))=true) ((!z1)=true)) (bif decide ((70:Int)<(↑ns:Int)) then true else decide ((60:Int)<(↑n:Int))) (M.Gd.ckE g ns x n S (0:Nat) M.P0 f) (100000:Nat) ((!decide ((70:Int)<(↑ns:Int)))=true) (∀ (k:Nat),k<n→(S k).k=(S k).k∧(S k).c=(S k).c∧(S k).q=(S k).q∧(S k).a=(S k).a∧(S k).b=(S k).b) (∀ (k:Nat),k<ns→x k=x k)
theorem r14a (g:M.Gd) (ns:Nat) (x:Nat→Int) (n:Nat) (S:Nat→M.Sc) (f:Int) (na:Nat) (B:Nat→M.Act):V true eqs [(17,pureE e17),(45,pureE e45b),(46,pureE e46b)] Try.f14 [0,1,2,3,4,5,10,11,12,13,14,15,16,17,18,19,20,21,22,35,62,64,69,76,114,132,136,150] [] [.agg [SI (M.Gd.w g),SI (M.Gd.h g),SI (M.Gd.s g),SI (M.Gd.v0 g),SI (M.Gd.v1 g),SI (M.Gd.d0 g),SI (M.Gd.d1 g),SI (M.Gd.r g)],.sl 1 ns (fun k=>[SI (x k)]),.sl 5 n (fun k=>[SI (M.Sc.k (S k)),SI (M.Sc.c (S k)),SI (M.Sc.q (S k)),SI (M.Sc.a (S k)),SI (M.Sc.b (S k))]),SI f,.sl 7 na (fun k=>[.bool (M.Act.cp (B k)),SI (M.Act.k (B k)),SI (M.Act.s (B k)),SI (M.Act.t0 (B k)),SI (M.Act.t1 (B k)),SI (M.Act.l0 (B k)),SI (M.Act.l1 (B k))])] (.bool true)=Rr14a g ns x n S f na B:=by kernel_rfl
theorem br14a (g:M.Gd) (ns:Nat) (x:Nat→Int) (n:Nat) (S:Nat→M.Sc) (f:Int) (na:Nat) (B:Nat→M.Act) (hp:(M.Gd.ckE g ns x n S 0 M.P0 f≠0)∧AllP []):Rr14a g ns x n S f na B:=by
 unfold Rr14a
 dsimp -iota -proj -eta -zeta only
 obtain ⟨hE,-⟩:=id hp
 by_cases c1:ns≤70
 ·by_cases c2:n≤60
  ·by_cases c3:na≤30
   ·have d1:¬ (70:Int)<ns:=by omega
    have d2:¬ (60:Int)<n:=by omega
    have d3:¬ (30:Int)<na:=by omega
    simp [d1,d2,d3,hE]
    omega
   ·have d3:(30:Int)<na:=by omega
    simp [d3]
    try omega
  ·have d2:(60:Int)<n:=by omega
   simp [d2]
 ·have d1:(70:Int)<ns:=by omega
  simp [d1]
theorem s14a:PureOK PP 14 e14a:=by
 intro xs ps res h hp
 unfold e14a at h
 split at h
 ·rename_i g_w g_h g_s g_v0 g_v1 g_d0 g_d1 g_r ns g_1 n g_2 f na g_3
  cases h
  simp only [AllP.cons] at hp
  obtain ⟨Hg_1,Hg_2,Hg_3,hp⟩:=hp
  exact Spec.args (enterH (Hold.of (r14a (M.Gd.mk g_w g_h g_s g_v0 g_v1 g_d0 g_d1 g_r) ns (cI g_1 0) n (fun i=>M.Sc.mk (cI g_2 0 i) (cI g_2 1 i) (cI g_2 2 i) (cI g_2 3 i) (cI g_2 4 i)) f na (fun i=>M.Act.mk (cB g_3 0 i) (cI g_3 1 i) (cI g_3 2 i) (cI g_3 3 i) (cI g_3 4 i) (cI g_3 5 i) (cI g_3 6 i))) (br14a (M.Gd.mk g_w g_h g_s g_v0 g_v1 g_d0 g_d1 g_r) ns (cI g_1 0) n (fun i=>M.Sc.mk (cI g_2 0 i) (cI g_2 1 i) (cI g_2 2 i) (cI g_2 3 i) (cI g_2 4 i)) f na (fun i=>M.Act.mk (cB g_3 0 i) (cI g_3 1 i) (cI g_3 2 i) (cI g_3 3 i) (cI g_3 4 i) (cI g_3 5 i) (cI g_3 6 i)) hp)) (eqsok) (.cons (pureE_ok s17) (.cons (pureE_ok s45b) (.cons (pureE_ok s46b) (.nil)))) (k:=14) (by kernel_rfl) (by kernel_rfl) (fun _=>.nil)) (.cons (.refl _) (.cons (.row Hg_1 fun _=>rfl) (.cons (.row Hg_2 fun _=>rfl) (.cons (.refl _) (.cons (.rowM Hg_3 fun _=>rfl) .nil)))))
 ·cases h
def e14c:List SV→Option (List Prop × SV)
 | [.agg [.int .i64 g_w,.int .i64 g_h,.int .i64 g_s,.int .i64 g_v0,.int .i64 g_v1,.int .i64 g_d0,.int .i64 g_d1,.int .i64 g_r],.sl 1 ns g_1,.sl 5 n g_2,.int .i64 f,.sl 7 na g_3]=>some ([Row 1 ns g_1,Row 5 n g_2,RowM [true,false,false,false,false,false,false] na g_3,M.Gd.ckE (M.Gd.mk g_w g_h g_s g_v0 g_v1 g_d0 g_d1 g_r) ns (cI g_1 0) n (fun i=>M.Sc.mk (cI g_2 0 i) (cI g_2 1 i) (cI g_2 2 i) (cI g_2 3 i) (cI g_2 4 i)) 0 M.P0 f=0],.bool true)
 | _=>none
def Rr14c (g:M.Gd) (ns:Nat) (x:Nat→Int) (n:Nat) (S:Nat→M.Sc) (f:Int) (na:Nat) (B:Nat→M.Act):Prop:=(fun (z0 z1:Bool) (z7:Nat) (z2 z4 z5:Prop)=>(fun (z8 z11:Bool) (z10:Nat) (z3:Nat→M.Sc) (z6 z9 z12:Prop)=>(z4→z4)∧(z4→z4)∧(decide ((70:Int)<(↑ns:Int))=false→z4)∧(z12→z12)∧(z12→z12)∧(z0=false→z12)∧(z8=true→true=true)∧(z8=false→z5∧z2∧z9∧z5∧z2∧z9∧z6∧z6∧z6∧z6∧((!z1)=false→(!!z1)=true)∧(z11=true→false=true)∧(z11=false→((!z1)=true→true=true)∧((!z1)=false→(z7≤na∧na≤(30:Nat)∧z9)∧((na=na∧∀ (k:Nat),k<na→(B k).cp=(B k).cp∧(B k).k=(B k).k∧(B k).s=(B k).s∧(B k).t0=(B k).t0∧(B k).t1=(B k).t1∧(B k).l0=(B k).l0∧(B k).l1=(B k).l1)∧false=false∧(0:Int)=(↑z7:Int)∧g.w=g.w∧g.h=g.h∧g.s=g.s∧g.v0=g.v0∧g.v1=g.v1∧g.d0=g.d0∧g.d1=g.d1∧g.r=g.r∧(ns=ns∧z5)∧f=f∧true=true∧(n=n∧z2)∧z7=z7∧(z10=z10∧∀ (k:Nat),k<z10→(z3 k).k=(z3 k).k∧(z3 k).c=(z3 k).c∧(z3 k).q=(z3 k).q∧(z3 k).a=(z3 k).a∧(z3 k).b=(z3 k).b)∧g.w=g.w∧g.h=g.h∧g.s=g.s∧g.v0=g.v0∧g.v1=g.v1∧g.d0=g.d0∧g.d1=g.d1∧g.r=g.r∧(ns=ns∧z5)∧(n=n∧z2)∧z7=z7∧f=f∧True)∧(false=false→true=true)∧(false=true→False))))) (bif z0 then true else decide ((30:Int)<(↑na:Int))) (bif !z1 then true else !(!false) == z1) (M.Gd.leN g x S z7 M.P0 f n) (M.Gd.leR g x S z7 M.P0 f n) ((!!z1)=true→(!!z1)=true) (M.Gd.Ck g ns x n S z7 M.P0 f) ((!z0)=true)) (bif decide ((70:Int)<(↑ns:Int)) then true else decide ((60:Int)<(↑n:Int))) (decide ((0:Int)=(0:Int))) (0:Nat) (∀ (k:Nat),k<n→(S k).k=(S k).k∧(S k).c=(S k).c∧(S k).q=(S k).q∧(S k).a=(S k).a∧(S k).b=(S k).b) ((!decide ((70:Int)<(↑ns:Int)))=true) (∀ (k:Nat),k<ns→x k=x k)
theorem r14c (g:M.Gd) (ns:Nat) (x:Nat→Int) (n:Nat) (S:Nat→M.Sc) (f:Int) (na:Nat) (B:Nat→M.Act):V true eqs [(17,pureE e17),(45,specE e45a),(46,specE e46a)] Try.f14 [0,1,2,3,4,5,10,11,12,13,14,15,16,17,18,19,20,21,22,35,62,64,69,76,114,132,136,150] [(0,loopT false Try.f14.ntmps 0 (lp14 g ns x n S f na B) (fun _ _ _=>((0:Nat),(0:Nat),M.P0)))] [.agg [SI (M.Gd.w g),SI (M.Gd.h g),SI (M.Gd.s g),SI (M.Gd.v0 g),SI (M.Gd.v1 g),SI (M.Gd.d0 g),SI (M.Gd.d1 g),SI (M.Gd.r g)],.sl 1 ns (fun k=>[SI (x k)]),.sl 5 n (fun k=>[SI (M.Sc.k (S k)),SI (M.Sc.c (S k)),SI (M.Sc.q (S k)),SI (M.Sc.a (S k)),SI (M.Sc.b (S k))]),SI f,.sl 7 na (fun k=>[.bool (M.Act.cp (B k)),SI (M.Act.k (B k)),SI (M.Act.s (B k)),SI (M.Act.t0 (B k)),SI (M.Act.t1 (B k)),SI (M.Act.l0 (B k)),SI (M.Act.l1 (B k))])] (.bool true)=Rr14c g ns x n S f na B:=by kernel_rfl
theorem br14c (g:M.Gd) (ns:Nat) (x:Nat→Int) (n:Nat) (S:Nat→M.Sc) (f:Int) (na:Nat) (B:Nat→M.Act) (hp:(M.Gd.ckE g ns x n S 0 M.P0 f=0)∧AllP []):Rr14c g ns x n S f na B:=by
 unfold Rr14c
 dsimp -iota -proj -eta -zeta only
 obtain ⟨hE,-⟩:=id hp
 have hC:=M.Gd.ckE_ok.1 hE
 by_cases c1:ns≤70
 ·by_cases c2:n≤60
  ·by_cases c3:na≤30
   ·have d1:¬ (70:Int)<ns:=by omega
    have d2:¬ (60:Int)<n:=by omega
    have d3:¬ (30:Int)<na:=by omega
    simp [d1,d2,d3,hC]
    try omega
   ·have d3:(30:Int)<na:=by omega
    simp [d3]
    try omega
  ·have d2:(60:Int)<n:=by omega
   simp [d2]
 ·have d1:(70:Int)<ns:=by omega
  simp [d1]
theorem s14c:PureOK PP 14 e14c:=by
 intro xs ps res h hp
 unfold e14c at h
 split at h
 ·rename_i g_w g_h g_s g_v0 g_v1 g_d0 g_d1 g_r ns g_1 n g_2 f na g_3
  cases h
  simp only [AllP.cons] at hp
  obtain ⟨Hg_1,Hg_2,Hg_3,hp⟩:=hp
  exact Spec.args (enterH (Hold.of (r14c (M.Gd.mk g_w g_h g_s g_v0 g_v1 g_d0 g_d1 g_r) ns (cI g_1 0) n (fun i=>M.Sc.mk (cI g_2 0 i) (cI g_2 1 i) (cI g_2 2 i) (cI g_2 3 i) (cI g_2 4 i)) f na (fun i=>M.Act.mk (cB g_3 0 i) (cI g_3 1 i) (cI g_3 2 i) (cI g_3 3 i) (cI g_3 4 i) (cI g_3 5 i) (cI g_3 6 i))) (br14c (M.Gd.mk g_w g_h g_s g_v0 g_v1 g_d0 g_d1 g_r) ns (cI g_1 0) n (fun i=>M.Sc.mk (cI g_2 0 i) (cI g_2 1 i) (cI g_2 2 i) (cI g_2 3 i) (cI g_2 4 i)) f na (fun i=>M.Act.mk (cB g_3 0 i) (cI g_3 1 i) (cI g_3 2 i) (cI g_3 3 i) (cI g_3 4 i) (cI g_3 5 i) (cI g_3 6 i)) hp)) (eqsok) (.cons (pureE_ok s17) (.cons (specE_ok s45a) (.cons (specE_ok s46a) (.nil)))) (k:=14) (by kernel_rfl) (by kernel_rfl) (fun Y=>.cons (by kernel_rfl) (t14 (M.Gd.mk g_w g_h g_s g_v0 g_v1 g_d0 g_d1 g_r) ns (cI g_1 0) n (fun i=>M.Sc.mk (cI g_2 0 i) (cI g_2 1 i) (cI g_2 2 i) (cI g_2 3 i) (cI g_2 4 i)) f na (fun i=>M.Act.mk (cB g_3 0 i) (cI g_3 1 i) (cI g_3 2 i) (cI g_3 3 i) (cI g_3 4 i) (cI g_3 5 i) (cI g_3 6 i)) FOK.wide Y) (.nil))) (.cons (.refl _) (.cons (.row Hg_1 fun _=>rfl) (.cons (.row Hg_2 fun _=>rfl) (.cons (.refl _) (.cons (.rowM Hg_3 fun _=>rfl) .nil)))))
 ·cases h
theorem s14 {w h s v0 v1 d0 d1 r:Int} {ns n na:Nat} {f:Int} {G1 G2 G3:Nat→List SV} (H1:Row 1 ns G1) (H2:Row 5 n G2) (H3:RowM [true,false,false,false,false,false,false] na G3) :
  Pure PP 14 (SV.denL [.agg [.int .i64 w,.int .i64 h,.int .i64 s,.int .i64 v0,.int .i64 v1,.int .i64 d0,.int .i64 d1,.int .i64 r],.sl 1 ns G1,.sl 5 n G2,.int .i64 f,.sl 7 na G3]) (SV.bool true).den:=by
 by_cases hE:M.Gd.ckE (M.Gd.mk w h s v0 v1 d0 d1 r) ns (cI G1 0) n (fun i=>M.Sc.mk (cI G2 0 i) (cI G2 1 i) (cI G2 2 i) (cI G2 3 i) (cI G2 4 i)) 0 M.P0 f=0
 ·exact s14c _ _ _ rfl (AllP.cons.2 ⟨H1,AllP.cons.2 ⟨H2,AllP.cons.2 ⟨H3,AllP.cons.2 ⟨hE,AllP.nil⟩⟩⟩⟩)
 ·exact s14a _ _ _ rfl (AllP.cons.2 ⟨H1,AllP.cons.2 ⟨H2,AllP.cons.2 ⟨H3,AllP.cons.2 ⟨hE,AllP.nil⟩⟩⟩⟩)
end Go.Proofs.Ytoncoofmijjgeaa.Sep
