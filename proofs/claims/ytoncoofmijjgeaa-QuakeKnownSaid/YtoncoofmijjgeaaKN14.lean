/-
  Texts of one seat, joined. No condition. (This text proves no statement by itself.)
-/
import Derived.Test.YtoncoofmijjgeaaKR10
import Derived.Test.YtoncoofmijjgeaaKR13
import Derived.Test.YtoncoofmijjgeaaKSep21
namespace Go.Proofs.Ytoncoofmijjgeaa.M
def P0:Nat→Pk:=fun _=>⟨0,0,0,0,0,0⟩
def snP (m:Nat) (P:Nat→Pk) (p:Pk):Nat→Pk:=fun k=>if k<m then P k else p
def adE (ns m:Nat) (p:Pk):Int:=if m=64 then 9 else p.vE ns
def adM (ns m:Nat) (p:Pk):Nat:=if adE ns m p=0 then m+1 else m
theorem snP_lt {m k:Nat} {P:Nat→Pk} {p:Pk} (h:k<m):snP m P p k=P k:=by unfold snP; rw [if_pos h]
theorem le_sn {g:Gd} {x:Nat→Int} {n:Nat} {S:Nat→Sc} {m:Nat} {P:Nat→Pk} {p:Pk} {f:Int} : g.leN x S m (snP m P p) f n=g.leN x S m P f n∧g.leR x S m (snP m P p) f n=g.leR x S m P f n:=by
 have e:∀ k,g.leL x S m (snP m P p) f k=g.leL x S m P f k:=by
  intro k
  induction k with
  | zero=>rfl
  | succ k ih =>
   unfold Gd.leL Gd.one
   rw [ih,Gd.lft_congr (P:=snP m P p) (P':=P) fun i hi=>snP_lt hi]
 unfold Gd.leN Gd.leR
 rw [e]
 exact ⟨rfl,rfl⟩
theorem ck_sn {g:Gd} {ns:Nat} {x:Nat→Int} {n:Nat} {S:Nat→Sc} {m:Nat} {P:Nat→Pk} {p:Pk} {f:Int} (h:g.Ck ns x n S m P f) (hE:adE ns m p=0):m<64∧g.Ck ns x n S (m+1) (snP m P p) f:=by
 obtain ⟨k1,k2,k3,k4,k6,k7,k8⟩:=h
 unfold adE at hE
 split at hE
 ·omega
 ·rename_i hm
  have hp:=Pk.vE_ok.1 hE
  refine ⟨by omega,k1,k2,k3,k4,by omega,fun i hi => ?_,k8⟩
  unfold snP
  split
  ·rename_i c; exact k7 i c
  ·exact hp
end Go.Proofs.Ytoncoofmijjgeaa.M
namespace Go.Proofs.Ytoncoofmijjgeaa.Sep
open Go
set_option linter.unusedVariables false
set_option linter.unusedSimpArgs false
def e85p:List SV→Option (List Prop × SV)
 | [.sl 5 n g_1]=>some ([Row 5 n g_1,0<n,n≤100000],.sl 5 n (fun k=>[SI (M.Sc.k ((fun i=>M.Sc.mk (cI g_1 0 i) (cI g_1 1 i) (cI g_1 2 i) (cI g_1 3 i) (cI g_1 4 i)) k)),SI (M.Sc.c ((fun i=>M.Sc.mk (cI g_1 0 i) (cI g_1 1 i) (cI g_1 2 i) (cI g_1 3 i) (cI g_1 4 i)) k)),SI (M.Sc.q ((fun i=>M.Sc.mk (cI g_1 0 i) (cI g_1 1 i) (cI g_1 2 i) (cI g_1 3 i) (cI g_1 4 i)) k)),SI (M.Sc.a ((fun i=>M.Sc.mk (cI g_1 0 i) (cI g_1 1 i) (cI g_1 2 i) (cI g_1 3 i) (cI g_1 4 i)) k)),SI (M.Sc.b ((fun i=>M.Sc.mk (cI g_1 0 i) (cI g_1 1 i) (cI g_1 2 i) (cI g_1 3 i) (cI g_1 4 i)) k))]))
 | _=>none
def Rr85p (n:Nat) (S:Nat→M.Sc):Prop:=(fun (z0:Nat)=>z0<n∧(false=true→n=z0)∧(false=false→(∀ (k:Nat),k<n→true=true)∧z0≤z0∧(z0+n)*(40:Nat)≤(140737488355328:Nat)∧z0+(z0+n)≤z0+n∧z0+n=n∧∀ (k:Nat),k<z0+n→(bif decide (z0+k<z0) then (0:Int) else (S (z0+k-z0)).k)=(S k).k∧(bif decide (z0+k<z0) then (0:Int) else (S (z0+k-z0)).c)=(S k).c∧(bif decide (z0+k<z0) then (0:Int) else (S (z0+k-z0)).q)=(S k).q∧(bif decide (z0+k<z0) then (0:Int) else (S (z0+k-z0)).a)=(S k).a∧(bif decide (z0+k<z0) then (0:Int) else (S (z0+k-z0)).b)=(S k).b)) (0:Nat)
theorem r85p (n:Nat) (S:Nat→M.Sc):V true [] [] Try.f85 [0,2,4] [] [.sl 5 n (fun k=>[SI (M.Sc.k (S k)),SI (M.Sc.c (S k)),SI (M.Sc.q (S k)),SI (M.Sc.a (S k)),SI (M.Sc.b (S k))])] (.sl 5 n (fun k=>[SI (M.Sc.k (S k)),SI (M.Sc.c (S k)),SI (M.Sc.q (S k)),SI (M.Sc.a (S k)),SI (M.Sc.b (S k))]))=Rr85p n S:=by kernel_rfl
theorem br85p (n:Nat) (S:Nat→M.Sc) (hp:(0<n)∧(n≤100000)∧AllP []):Rr85p n S:=by
 unfold Rr85p
 dsimp -iota -proj -eta -zeta only
 obtain ⟨h1,h2,-⟩:=id hp
 simp [h1]
 omega
theorem s85p:PureOK PP 85 e85p:=by
 intro xs ps res h hp
 unfold e85p at h
 split at h
 ·rename_i n g_1
  cases h
  simp only [AllP.cons] at hp
  obtain ⟨Hg_1,hp⟩:=hp
  exact Spec.args (enterH (Hold.of (r85p n (fun i=>M.Sc.mk (cI g_1 0 i) (cI g_1 1 i) (cI g_1 2 i) (cI g_1 3 i) (cI g_1 4 i))) (br85p n (fun i=>M.Sc.mk (cI g_1 0 i) (cI g_1 1 i) (cI g_1 2 i) (cI g_1 3 i) (cI g_1 4 i)) hp)) (.nil) (.nil) (k:=85) (by kernel_rfl) (by kernel_rfl) (fun _=>.nil)) (.cons (.row Hg_1 fun _=>rfl) .nil)
 ·cases h
def e76p:List SV→Option (List Prop × SV)
 | [.sl 1 n g_1]=>some ([Row 1 n g_1,0<n,n≤100000],.sl 1 n (fun k=>[SI ((cI g_1 0) k)]))
 | _=>none
def Rr76p (n:Nat) (x:Nat→Int):Prop:=(fun (z0:Nat)=>z0<n∧(false=true→n=z0)∧(false=false→(∀ (k:Nat),k<n→true=true)∧z0≤z0∧(z0+n)*(8:Nat)≤(140737488355328:Nat)∧z0+(z0+n)≤z0+n∧z0+n=n∧∀ (k:Nat),k<z0+n→(bif decide (z0+k<z0) then (0:Int) else x (z0+k-z0))=x k)) (0:Nat)
theorem r76p (n:Nat) (x:Nat→Int):V true [] [] Try.f76 [0,2,4] [] [.sl 1 n (fun k=>[SI (x k)])] (.sl 1 n (fun k=>[SI (x k)]))=Rr76p n x:=by kernel_rfl
theorem br76p (n:Nat) (x:Nat→Int) (hp:(0<n)∧(n≤100000)∧AllP []):Rr76p n x:=by
 unfold Rr76p
 dsimp -iota -proj -eta -zeta only
 obtain ⟨h1,h2,-⟩:=id hp
 simp [h1]
 omega
theorem s76p:PureOK PP 76 e76p:=by
 intro xs ps res h hp
 unfold e76p at h
 split at h
 ·rename_i n g_1
  cases h
  simp only [AllP.cons] at hp
  obtain ⟨Hg_1,hp⟩:=hp
  exact Spec.args (enterH (Hold.of (r76p n (cI g_1 0)) (br76p n (cI g_1 0) hp)) (.nil) (.nil) (k:=76) (by kernel_rfl) (by kernel_rfl) (fun _=>.nil)) (.cons (.row Hg_1 fun _=>rfl) .nil)
 ·cases h
theorem SLe.nilS {a:Option Addr} {c s:Nat} {f:Nat→List SV} : SLe (.lit (.slice a 0 c)) (.sl s 0 f):=fun S w ρ v hv=>by
 simp only [SV.den] at hv ⊢
 obtain rfl:=hv.lit_inv
 exact .vslNil
theorem pure_nil {f:FuncId} {sz:Nat} {r:AV} (h:∀ a c,Pure PP f [.lit (.slice a 0 c)] r):Pure PP f [.vsl sz []] r:=by
 refine ⟨(h none 0).1,(h none 0).2.1,fun ρ0 S w vs hm ha => ?_⟩
 have hz:vs.size=1:=ha.1
 obtain ⟨v,hv⟩ : ∃ v,vs[0]? = some v:=⟨vs[0],by simp [hz]⟩
 obtain ⟨a,c,rfl,-⟩:=(ha.2 0 _ v rfl hv).vsl_inv
 refine (h a c).2.2 ρ0 S w vs hm ⟨hz,fun k x u h1 h2 => ?_⟩
 rcases k with _ | k
 ·simp only [List.getElem?_cons_zero,Option.some.injEq] at h1
  subst h1
  rw [hv] at h2
  cases h2
  exact .lit _
 ·simp at h1
def Rr85z (a:Option Addr) (c:Nat):Prop:=(fun (z0:Nat)=>(Option.isNone a=true→z0=z0)∧(Option.isNone a=false→(∀ (k:Nat),k<z0→true=true)∧z0≤z0∧(z0+z0)*(40:Nat)≤(140737488355328:Nat)∧z0+(z0+z0)≤z0+z0∧z0+z0=z0∧∀ (k:Nat),k<z0+z0→True)) (0:Nat)
theorem r85z (a:Option Addr) (c:Nat):V true [] [] Try.f85 [0,2,4] [] [.lit (.slice a 0 c)] (.sl 5 0 (fun _=>[]))=Rr85z a c:=by kernel_rfl
theorem br85z (a:Option Addr) (c:Nat)  : Rr85z a c:=by
 unfold Rr85z
 dsimp -iota -proj -eta -zeta only
 cases a <;> simp
theorem p85z (a:Option Addr) (c:Nat)  : Pure PP 85 (SV.denL [.lit (.slice a 0 c)]) (.sl 5 0 (fun _=>[]):SV).den:=by
  exact enterH (Hold.of (r85z a c) (br85z a c )) (.nil) (.nil) (k:=85) (by kernel_rfl) (by kernel_rfl) (fun _=>.nil)
def Rr76z (a:Option Addr) (c:Nat):Prop:=(fun (z0:Nat)=>(Option.isNone a=true→z0=z0)∧(Option.isNone a=false→(∀ (k:Nat),k<z0→true=true)∧z0≤z0∧(z0+z0)*(8:Nat)≤(140737488355328:Nat)∧z0+(z0+z0)≤z0+z0∧z0+z0=z0∧∀ (k:Nat),k<z0+z0→True)) (0:Nat)
theorem r76z (a:Option Addr) (c:Nat):V true [] [] Try.f76 [0,2,4] [] [.lit (.slice a 0 c)] (.sl 1 0 (fun _=>[]))=Rr76z a c:=by kernel_rfl
theorem br76z (a:Option Addr) (c:Nat)  : Rr76z a c:=by
 unfold Rr76z
 dsimp -iota -proj -eta -zeta only
 cases a <;> simp
theorem p76z (a:Option Addr) (c:Nat)  : Pure PP 76 (SV.denL [.lit (.slice a 0 c)]) (.sl 1 0 (fun _=>[]):SV).den:=by
  exact enterH (Hold.of (r76z a c) (br76z a c )) (.nil) (.nil) (k:=76) (by kernel_rfl) (by kernel_rfl) (fun _=>.nil)
def e88q:EntB
 | [.sl 6 n g_1],[]=>some ([Row 6 n g_1,0<n,n≤100000],.vec 0 6 0 n,[.row 6 n (fun k=>[SI (M.Pk.k ((fun i=>M.Pk.mk (cI g_1 0 i) (cI g_1 1 i) (cI g_1 2 i) (cI g_1 3 i) (cI g_1 4 i) (cI g_1 5 i)) k)),SI (M.Pk.s ((fun i=>M.Pk.mk (cI g_1 0 i) (cI g_1 1 i) (cI g_1 2 i) (cI g_1 3 i) (cI g_1 4 i) (cI g_1 5 i)) k)),SI (M.Pk.t0 ((fun i=>M.Pk.mk (cI g_1 0 i) (cI g_1 1 i) (cI g_1 2 i) (cI g_1 3 i) (cI g_1 4 i) (cI g_1 5 i)) k)),SI (M.Pk.t1 ((fun i=>M.Pk.mk (cI g_1 0 i) (cI g_1 1 i) (cI g_1 2 i) (cI g_1 3 i) (cI g_1 4 i) (cI g_1 5 i)) k)),SI (M.Pk.l0 ((fun i=>M.Pk.mk (cI g_1 0 i) (cI g_1 1 i) (cI g_1 2 i) (cI g_1 3 i) (cI g_1 4 i) (cI g_1 5 i)) k)),SI (M.Pk.l1 ((fun i=>M.Pk.mk (cI g_1 0 i) (cI g_1 1 i) (cI g_1 2 i) (cI g_1 3 i) (cI g_1 4 i) (cI g_1 5 i)) k))])])
 | _,_=>none
def Rr88q (n:Nat) (P:Nat→M.Pk):Prop:=(fun (z1:Int) (z0:Nat)=>z0<n∧(false=true→n=z0∧n=z0∧True)∧(false=false→(∀ (k:Nat),k<n→true=true)∧z0≤z0∧(z0+n)*(48:Nat)≤(140737488355328:Nat)∧z0=z0∧z0+n=n∧n≤z0+n∧(∀ (k:Nat),k<n→(bif decide (k<z0) then z1 else (P (k-z0)).k)=(P k).k∧(bif decide (k<z0) then z1 else (P (k-z0)).s)=(P k).s∧(bif decide (k<z0) then z1 else (P (k-z0)).t0)=(P k).t0∧(bif decide (k<z0) then z1 else (P (k-z0)).t1)=(P k).t1∧(bif decide (k<z0) then z1 else (P (k-z0)).l0)=(P k).l0∧(bif decide (k<z0) then z1 else (P (k-z0)).l1)=(P k).l1)∧True)) (0:Int) (0:Nat)
theorem r88q (n:Nat) (P:Nat→M.Pk):VN true [] [] Try.f88 [0,2,4] [] [.sl 6 n (fun k=>[SI (M.Pk.k (P k)),SI (M.Pk.s (P k)),SI (M.Pk.t0 (P k)),SI (M.Pk.t1 (P k)),SI (M.Pk.l0 (P k)),SI (M.Pk.l1 (P k))])] [] (.vec 0 6 0 n) [.row 6 n (fun k=>[SI (M.Pk.k (P k)),SI (M.Pk.s (P k)),SI (M.Pk.t0 (P k)),SI (M.Pk.t1 (P k)),SI (M.Pk.l0 (P k)),SI (M.Pk.l1 (P k))])]=Rr88q n P:=by kernel_rfl
theorem br88q (n:Nat) (P:Nat→M.Pk) (hp:(0<n)∧(n≤100000)∧AllP []):Rr88q n P:=by
 unfold Rr88q
 dsimp -iota -proj -eta -zeta only
 obtain ⟨h1,h2,-⟩:=id hp
 simp [h1]
 omega
theorem s88q:SpecOK PP 88 e88q:=by
 intro xs Hs ps res Hs1 h hp
 unfold e88q at h
 split at h
 ·rename_i n g_1
  cases h
  simp only [AllP.cons] at hp
  obtain ⟨Hg_1,hp⟩:=hp
  exact Spec.args (enterNH (Hold.of (r88q n (fun i=>M.Pk.mk (cI g_1 0 i) (cI g_1 1 i) (cI g_1 2 i) (cI g_1 3 i) (cI g_1 4 i) (cI g_1 5 i))) (br88q n (fun i=>M.Pk.mk (cI g_1 0 i) (cI g_1 1 i) (cI g_1 2 i) (cI g_1 3 i) (cI g_1 4 i) (cI g_1 5 i)) hp)) (.nil) (.nil) (k:=88) (by kernel_rfl) (by kernel_rfl) rfl (fun _=>.nil)) (.cons (.row Hg_1 fun _=>rfl) .nil)
 ·cases h
def Rr88y (a:Option Addr) (c:Nat):Prop:=(fun (z0:Nat)=>(Option.isNone a=true→z0=z0∧z0=z0∧True)∧(Option.isNone a=false→(∀ (k:Nat),k<z0→true=true)∧z0≤z0∧(z0+z0)*(48:Nat)≤(140737488355328:Nat)∧z0=z0∧z0+z0=z0∧z0≤z0+z0∧(∀ (k:Nat),k<z0→True)∧True)) (0:Nat)
theorem r88y (a:Option Addr) (c:Nat):VN true [] [] Try.f88 [0,2,4] [] [.lit (.slice a 0 c)] [] (.vec 0 6 0 0) [.row 6 0 (fun _=>[])]=Rr88y a c:=by kernel_rfl
theorem br88y (a:Option Addr) (c:Nat)  : Rr88y a c:=by
 unfold Rr88y
 dsimp -iota -proj -eta -zeta only
 cases a <;> simp
theorem p88y (a:Option Addr) (c:Nat)  : Spec PP 88 (SV.denL [.lit (.slice a 0 c)]) (List.map SBlk.den []) (.vec 0 6 0 0:SV).den (List.map SBlk.den [.row 6 0 (fun _=>[])]):=by
  exact enterNH (Hold.of (r88y a c) (br88y a c )) (.nil) (.nil) (k:=88) (by kernel_rfl) (by kernel_rfl) rfl (fun _=>.nil)
theorem spec_nil {f:FuncId} {sz:Nat} {r:AV} {Hs Hs':List Blk} (h:∀ a c,Spec PP f [.lit (.slice a 0 c)] Hs r Hs'):Spec PP f [.vsl sz []] Hs r Hs':=by
 refine ⟨(h none 0).1,(h none 0).2.1,fun ρ0 S w vs hm ha => ?_⟩
 have hz:vs.size=1:=ha.1
 obtain ⟨v,hv⟩ : ∃ v,vs[0]? = some v:=⟨vs[0],by simp [hz]⟩
 obtain ⟨a,c,rfl,-⟩:=(ha.2 0 _ v rfl hv).vsl_inv
 refine (h a c).2.2 ρ0 S w vs hm ⟨hz,fun k x u h1 h2 => ?_⟩
 rcases k with _ | k
 ·simp only [List.getElem?_cons_zero,Option.some.injEq] at h1
  subst h1
  rw [hv] at h2
  cases h2
  exact .lit _
 ·simp at h1
def e88w:EntB
 | [.sl 6 n g_1],[]=>some ([Row 6 n g_1,n≤100000],.vec 0 6 0 n,[.row 6 n (fun k=>[SI (cI g_1 0 k),SI (cI g_1 1 k),SI (cI g_1 2 k),SI (cI g_1 3 k),SI (cI g_1 4 k),SI (cI g_1 5 k)])])
 | _,_=>none
theorem s88w:SpecOK PP 88 e88w:=by
 intro xs Hs ps res Hs1 h hp
 unfold e88w at h
 split at h
 ·rename_i n g_1
  cases h
  simp only [AllP.cons] at hp
  obtain ⟨H1,h2,-⟩:=hp
  rcases Nat.eq_zero_or_pos n with h0 | h0
  ·subst h0
   exact spec_nil (f:=88) (sz:=6) (r:=(SV.vec 0 6 0 0).den) (fun a c=>p88y a c)
  ·exact s88q [.sl 6 n g_1] [] _ _ _ rfl (AllP.cons.2 ⟨H1,AllP.cons.2 ⟨h0,AllP.cons.2 ⟨h2,AllP.nil⟩⟩⟩)
 ·cases h
def e85:List SV→Option (List Prop × SV)
 | [.sl 5 n g_1]=>some ([Row 5 n g_1,n≤100000],.sl 5 n (fun k=>[SI (M.Sc.k ((fun i=>M.Sc.mk (cI g_1 0 i) (cI g_1 1 i) (cI g_1 2 i) (cI g_1 3 i) (cI g_1 4 i)) k)),SI (M.Sc.c ((fun i=>M.Sc.mk (cI g_1 0 i) (cI g_1 1 i) (cI g_1 2 i) (cI g_1 3 i) (cI g_1 4 i)) k)),SI (M.Sc.q ((fun i=>M.Sc.mk (cI g_1 0 i) (cI g_1 1 i) (cI g_1 2 i) (cI g_1 3 i) (cI g_1 4 i)) k)),SI (M.Sc.a ((fun i=>M.Sc.mk (cI g_1 0 i) (cI g_1 1 i) (cI g_1 2 i) (cI g_1 3 i) (cI g_1 4 i)) k)),SI (M.Sc.b ((fun i=>M.Sc.mk (cI g_1 0 i) (cI g_1 1 i) (cI g_1 2 i) (cI g_1 3 i) (cI g_1 4 i)) k))]))
 | _=>none
theorem s85:PureOK PP 85 e85:=by
 intro xs ps res h hp
 unfold e85 at h
 split at h
 ·rename_i n g_1
  cases h
  simp only [AllP.cons] at hp
  obtain ⟨Hg_1,hp⟩:=hp
  rcases Nat.eq_zero_or_pos n with h0 | h0
  ·subst h0
   exact pure_nil (f:=85) (sz:=5) (r:=(SV.sl 5 0 (fun _=>[])).den) (fun a c=>p85z a c)
  ·exact s85p [.sl 5 n g_1] _ _ rfl (AllP.cons.2 ⟨Hg_1,AllP.cons.2 ⟨h0,AllP.cons.2 ⟨hp.1,AllP.nil⟩⟩⟩)
 ·cases h
def e76s:List SV→Option (List Prop × SV)
 | [.sl 1 n g_1]=>some ([Row 1 n g_1,n≤100000],.sl 1 n (fun k=>[SI ((cI g_1 0) k)]))
 | _=>none
theorem s76s:PureOK PP 76 e76s:=by
 intro xs ps res h hp
 unfold e76s at h
 split at h
 ·rename_i n g_1
  cases h
  simp only [AllP.cons] at hp
  obtain ⟨Hg_1,hp⟩:=hp
  rcases Nat.eq_zero_or_pos n with h0 | h0
  ·subst h0
   exact pure_nil (f:=76) (sz:=1) (r:=(SV.sl 1 0 (fun _=>[])).den) (fun a c=>p76z a c)
  ·exact s76p [.sl 1 n g_1] _ _ rfl (AllP.cons.2 ⟨Hg_1,AllP.cons.2 ⟨h0,AllP.cons.2 ⟨hp.1,AllP.nil⟩⟩⟩)
 ·cases h
def e59n:List SV→Option (List Prop × SV)
 | [.agg [.int .i64 g_w,.int .i64 g_h,.int .i64 g_s,.int .i64 g_v0,.int .i64 g_v1,.int .i64 g_d0,.int .i64 g_d1,.int .i64 g_r,.sl 1 ns g_1,.int .i64 f],.sl 5 n g_2,.lit (.slice none 0 0)]=>some ([Row 1 ns g_1,Row 5 n g_2,ns≤100000,n≤100000],SI (M.Gd.ckE (M.Gd.mk g_w g_h g_s g_v0 g_v1 g_d0 g_d1 g_r) ns (cI g_1 0) n (fun i=>M.Sc.mk (cI g_2 0 i) (cI g_2 1 i) (cI g_2 2 i) (cI g_2 3 i) (cI g_2 4 i)) 0 M.P0 f))
 | _=>none
theorem s59n:PureOK PP 59 e59n:=by
 intro xs ps res h hp
 unfold e59n at h
 split at h
 ·rename_i g_w g_h g_s g_v0 g_v1 g_d0 g_d1 g_r ns g_1 f n g_2
  cases h
  simp only [AllP.cons] at hp
  obtain ⟨Hg_1,Hg_2,hp⟩:=hp
  have h6:=s59 [.agg [.int .i64 g_w,.int .i64 g_h,.int .i64 g_s,.int .i64 g_v0,.int .i64 g_v1,.int .i64 g_d0,.int .i64 g_d1,.int .i64 g_r,.sl 1 ns g_1,.int .i64 f],.sl 5 n g_2,.sl 6 0 (fun _=>[])] _ _ rfl (AllP.cons.2 ⟨Hg_1,(AllP.cons.2 ⟨Hg_2,(AllP.cons.2 ⟨(fun k hk=>absurd hk (Nat.not_lt_zero k)),(AllP.cons.2 ⟨(hp.1),(AllP.cons.2 ⟨(hp.2.1),(AllP.cons.2 ⟨(by omega),AllP.nil⟩)⟩)⟩)⟩)⟩)⟩)
  replace h6:=Spec.args (xs:=[.agg [.int .i64 g_w,.int .i64 g_h,.int .i64 g_s,.int .i64 g_v0,.int .i64 g_v1,.int .i64 g_d0,.int .i64 g_d1,.int .i64 g_r,.sl 1 ns g_1,.int .i64 f],.sl 5 n g_2,.lit (.slice none 0 0)]) h6 (.cons (.refl _) (.cons (.refl _) (.cons SLe.nilS .nil)))
  exact h6
 ·cases h
def e60n:List SV→Option (List Prop × SV)
 | [.agg [.int .i64 g_w,.int .i64 g_h,.int .i64 g_s,.int .i64 g_v0,.int .i64 g_v1,.int .i64 g_d0,.int .i64 g_d1,.int .i64 g_r,.sl 1 ns g_1,.int .i64 f],.sl 5 n g_2,.lit (.slice none 0 0)]=>some ([Row 1 ns g_1,Row 5 n g_2,M.Gd.Ck (M.Gd.mk g_w g_h g_s g_v0 g_v1 g_d0 g_d1 g_r) ns (cI g_1 0) n (fun i=>M.Sc.mk (cI g_2 0 i) (cI g_2 1 i) (cI g_2 2 i) (cI g_2 3 i) (cI g_2 4 i)) 0 M.P0 f],.sl 5 (M.Gd.leN (M.Gd.mk g_w g_h g_s g_v0 g_v1 g_d0 g_d1 g_r) (cI g_1 0) (fun i=>M.Sc.mk (cI g_2 0 i) (cI g_2 1 i) (cI g_2 2 i) (cI g_2 3 i) (cI g_2 4 i)) 0 M.P0 f n) (fun k=>[SI (M.Gd.leR (M.Gd.mk g_w g_h g_s g_v0 g_v1 g_d0 g_d1 g_r) (cI g_1 0) (fun i=>M.Sc.mk (cI g_2 0 i) (cI g_2 1 i) (cI g_2 2 i) (cI g_2 3 i) (cI g_2 4 i)) 0 M.P0 f n k).k,SI (M.Gd.leR (M.Gd.mk g_w g_h g_s g_v0 g_v1 g_d0 g_d1 g_r) (cI g_1 0) (fun i=>M.Sc.mk (cI g_2 0 i) (cI g_2 1 i) (cI g_2 2 i) (cI g_2 3 i) (cI g_2 4 i)) 0 M.P0 f n k).c,SI (M.Gd.leR (M.Gd.mk g_w g_h g_s g_v0 g_v1 g_d0 g_d1 g_r) (cI g_1 0) (fun i=>M.Sc.mk (cI g_2 0 i) (cI g_2 1 i) (cI g_2 2 i) (cI g_2 3 i) (cI g_2 4 i)) 0 M.P0 f n k).q,SI (M.Gd.leR (M.Gd.mk g_w g_h g_s g_v0 g_v1 g_d0 g_d1 g_r) (cI g_1 0) (fun i=>M.Sc.mk (cI g_2 0 i) (cI g_2 1 i) (cI g_2 2 i) (cI g_2 3 i) (cI g_2 4 i)) 0 M.P0 f n k).a,SI (M.Gd.leR (M.Gd.mk g_w g_h g_s g_v0 g_v1 g_d0 g_d1 g_r) (cI g_1 0) (fun i=>M.Sc.mk (cI g_2 0 i) (cI g_2 1 i) (cI g_2 2 i) (cI g_2 3 i) (cI g_2 4 i)) 0 M.P0 f n k).b]))
 | _=>none
theorem s60n:PureOK PP 60 e60n:=by
 intro xs ps res h hp
 unfold e60n at h
 split at h
 ·rename_i g_w g_h g_s g_v0 g_v1 g_d0 g_d1 g_r ns g_1 f n g_2
  cases h
  simp only [AllP.cons] at hp
  obtain ⟨Hg_1,Hg_2,hp⟩:=hp
  have h6:=s60 [.agg [.int .i64 g_w,.int .i64 g_h,.int .i64 g_s,.int .i64 g_v0,.int .i64 g_v1,.int .i64 g_d0,.int .i64 g_d1,.int .i64 g_r,.sl 1 ns g_1,.int .i64 f],.sl 5 n g_2,.sl 6 0 (fun _=>[])] _ _ rfl (AllP.cons.2 ⟨Hg_1,(AllP.cons.2 ⟨Hg_2,(AllP.cons.2 ⟨(fun k hk=>absurd hk (Nat.not_lt_zero k)),(AllP.cons.2 ⟨(hp.1),AllP.nil⟩)⟩)⟩)⟩)
  replace h6:=Spec.args (xs:=[.agg [.int .i64 g_w,.int .i64 g_h,.int .i64 g_s,.int .i64 g_v0,.int .i64 g_v1,.int .i64 g_d0,.int .i64 g_d1,.int .i64 g_r,.sl 1 ns g_1,.int .i64 f],.sl 5 n g_2,.lit (.slice none 0 0)]) h6 (.cons (.refl _) (.cons (.refl _) (.cons SLe.nilS .nil)))
  exact h6
 ·cases h
def e86:EntB
 | [.ptr 0 0],[.cells [.int .i64 g_w,.int .i64 g_h,.int .i64 g_s,.int .i64 g_v0,.int .i64 g_v1,.int .i64 g_d0,.int .i64 g_d1,.int .i64 g_r,.sl 1 ns g_1,.int .i64 f,.bool true,.sl 5 n g_2,.sl 6 m g_3,.sl 5 N g_4]]=>some ([Row 1 ns g_1,Row 5 n g_2,Row 6 m g_3,Row 5 N g_4],.bool true,[.cells [SI (M.Gd.w (M.Gd.mk g_w g_h g_s g_v0 g_v1 g_d0 g_d1 g_r)),SI (M.Gd.h (M.Gd.mk g_w g_h g_s g_v0 g_v1 g_d0 g_d1 g_r)),SI (M.Gd.s (M.Gd.mk g_w g_h g_s g_v0 g_v1 g_d0 g_d1 g_r)),SI (M.Gd.v0 (M.Gd.mk g_w g_h g_s g_v0 g_v1 g_d0 g_d1 g_r)),SI (M.Gd.v1 (M.Gd.mk g_w g_h g_s g_v0 g_v1 g_d0 g_d1 g_r)),SI (M.Gd.d0 (M.Gd.mk g_w g_h g_s g_v0 g_v1 g_d0 g_d1 g_r)),SI (M.Gd.d1 (M.Gd.mk g_w g_h g_s g_v0 g_v1 g_d0 g_d1 g_r)),SI (M.Gd.r (M.Gd.mk g_w g_h g_s g_v0 g_v1 g_d0 g_d1 g_r)),.sl 1 ns (fun k=>[SI ((cI g_1 0) k)]),SI f,.bool true,.sl 5 n (fun k=>[SI (M.Sc.k ((fun i=>M.Sc.mk (cI g_2 0 i) (cI g_2 1 i) (cI g_2 2 i) (cI g_2 3 i) (cI g_2 4 i)) k)),SI (M.Sc.c ((fun i=>M.Sc.mk (cI g_2 0 i) (cI g_2 1 i) (cI g_2 2 i) (cI g_2 3 i) (cI g_2 4 i)) k)),SI (M.Sc.q ((fun i=>M.Sc.mk (cI g_2 0 i) (cI g_2 1 i) (cI g_2 2 i) (cI g_2 3 i) (cI g_2 4 i)) k)),SI (M.Sc.a ((fun i=>M.Sc.mk (cI g_2 0 i) (cI g_2 1 i) (cI g_2 2 i) (cI g_2 3 i) (cI g_2 4 i)) k)),SI (M.Sc.b ((fun i=>M.Sc.mk (cI g_2 0 i) (cI g_2 1 i) (cI g_2 2 i) (cI g_2 3 i) (cI g_2 4 i)) k))]),.sl 6 m (fun k=>[SI (M.Pk.k ((fun i=>M.Pk.mk (cI g_3 0 i) (cI g_3 1 i) (cI g_3 2 i) (cI g_3 3 i) (cI g_3 4 i) (cI g_3 5 i)) k)),SI (M.Pk.s ((fun i=>M.Pk.mk (cI g_3 0 i) (cI g_3 1 i) (cI g_3 2 i) (cI g_3 3 i) (cI g_3 4 i) (cI g_3 5 i)) k)),SI (M.Pk.t0 ((fun i=>M.Pk.mk (cI g_3 0 i) (cI g_3 1 i) (cI g_3 2 i) (cI g_3 3 i) (cI g_3 4 i) (cI g_3 5 i)) k)),SI (M.Pk.t1 ((fun i=>M.Pk.mk (cI g_3 0 i) (cI g_3 1 i) (cI g_3 2 i) (cI g_3 3 i) (cI g_3 4 i) (cI g_3 5 i)) k)),SI (M.Pk.l0 ((fun i=>M.Pk.mk (cI g_3 0 i) (cI g_3 1 i) (cI g_3 2 i) (cI g_3 3 i) (cI g_3 4 i) (cI g_3 5 i)) k)),SI (M.Pk.l1 ((fun i=>M.Pk.mk (cI g_3 0 i) (cI g_3 1 i) (cI g_3 2 i) (cI g_3 3 i) (cI g_3 4 i) (cI g_3 5 i)) k))]),.sl 5 N (fun k=>[SI (M.Sc.k ((fun i=>M.Sc.mk (cI g_4 0 i) (cI g_4 1 i) (cI g_4 2 i) (cI g_4 3 i) (cI g_4 4 i)) k)),SI (M.Sc.c ((fun i=>M.Sc.mk (cI g_4 0 i) (cI g_4 1 i) (cI g_4 2 i) (cI g_4 3 i) (cI g_4 4 i)) k)),SI (M.Sc.q ((fun i=>M.Sc.mk (cI g_4 0 i) (cI g_4 1 i) (cI g_4 2 i) (cI g_4 3 i) (cI g_4 4 i)) k)),SI (M.Sc.a ((fun i=>M.Sc.mk (cI g_4 0 i) (cI g_4 1 i) (cI g_4 2 i) (cI g_4 3 i) (cI g_4 4 i)) k)),SI (M.Sc.b ((fun i=>M.Sc.mk (cI g_4 0 i) (cI g_4 1 i) (cI g_4 2 i) (cI g_4 3 i) (cI g_4 4 i)) k))])]])
 | _,_=>none
def Rr86 (g:M.Gd) (ns:Nat) (x:Nat→Int) (n:Nat) (S:Nat→M.Sc) (m:Nat) (P:Nat→M.Pk) (f:Int) (N:Nat) (L:Nat→M.Sc):Prop:=(fun (z0:Prop)=>z0∧z0∧z0∧z0∧(g.w=g.w∧g.h=g.h∧g.s=g.s∧g.v0=g.v0∧g.v1=g.v1∧g.d0=g.d0∧g.d1=g.d1∧g.r=g.r∧(ns=ns∧∀ (k:Nat),k<ns→x k=x k)∧f=f∧true=true∧(n=n∧∀ (k:Nat),k<n→(S k).k=(S k).k∧(S k).c=(S k).c∧(S k).q=(S k).q∧(S k).a=(S k).a∧(S k).b=(S k).b)∧(m=m∧∀ (k:Nat),k<m→(P k).k=(P k).k∧(P k).s=(P k).s∧(P k).t0=(P k).t0∧(P k).t1=(P k).t1∧(P k).l0=(P k).l0∧(P k).l1=(P k).l1)∧N=N∧∀ (k:Nat),k<N→(L k).k=(L k).k∧(L k).c=(L k).c∧(L k).q=(L k).q∧(L k).a=(L k).a∧(L k).b=(L k).b)∧(bif !false then true else false)=true) ((!false)=true→(!false)=true)
theorem r86 (g:M.Gd) (ns:Nat) (x:Nat→Int) (n:Nat) (S:Nat→M.Sc) (m:Nat) (P:Nat→M.Pk) (f:Int) (N:Nat) (L:Nat→M.Sc):VB true [] [] Try.f86 [0,2] [] [.ptr 0 0] [.cells [SI (M.Gd.w g),SI (M.Gd.h g),SI (M.Gd.s g),SI (M.Gd.v0 g),SI (M.Gd.v1 g),SI (M.Gd.d0 g),SI (M.Gd.d1 g),SI (M.Gd.r g),.sl 1 ns (fun k=>[SI (x k)]),SI f,.bool true,.sl 5 n (fun k=>[SI (M.Sc.k (S k)),SI (M.Sc.c (S k)),SI (M.Sc.q (S k)),SI (M.Sc.a (S k)),SI (M.Sc.b (S k))]),.sl 6 m (fun k=>[SI (M.Pk.k (P k)),SI (M.Pk.s (P k)),SI (M.Pk.t0 (P k)),SI (M.Pk.t1 (P k)),SI (M.Pk.l0 (P k)),SI (M.Pk.l1 (P k))]),.sl 5 N (fun k=>[SI (M.Sc.k (L k)),SI (M.Sc.c (L k)),SI (M.Sc.q (L k)),SI (M.Sc.a (L k)),SI (M.Sc.b (L k))])]] (.bool true) [.cells [SI (M.Gd.w g),SI (M.Gd.h g),SI (M.Gd.s g),SI (M.Gd.v0 g),SI (M.Gd.v1 g),SI (M.Gd.d0 g),SI (M.Gd.d1 g),SI (M.Gd.r g),.sl 1 ns (fun k=>[SI (x k)]),SI f,.bool true,.sl 5 n (fun k=>[SI (M.Sc.k (S k)),SI (M.Sc.c (S k)),SI (M.Sc.q (S k)),SI (M.Sc.a (S k)),SI (M.Sc.b (S k))]),.sl 6 m (fun k=>[SI (M.Pk.k (P k)),SI (M.Pk.s (P k)),SI (M.Pk.t0 (P k)),SI (M.Pk.t1 (P k)),SI (M.Pk.l0 (P k)),SI (M.Pk.l1 (P k))]),.sl 5 N (fun k=>[SI (M.Sc.k (L k)),SI (M.Sc.c (L k)),SI (M.Sc.q (L k)),SI (M.Sc.a (L k)),SI (M.Sc.b (L k))])]]=Rr86 g ns x n S m P f N L:=by kernel_rfl
theorem br86 (g:M.Gd) (ns:Nat) (x:Nat→Int) (n:Nat) (S:Nat→M.Sc) (m:Nat) (P:Nat→M.Pk) (f:Int) (N:Nat) (L:Nat→M.Sc)  : Rr86 g ns x n S m P f N L:=by
 unfold Rr86
 dsimp -iota -proj -eta -zeta only
 simp
theorem s86:SpecOK PP 86 e86:=by
 intro xs Hs ps res Hs1 h hp
 unfold e86 at h
 split at h
 ·rename_i g_w g_h g_s g_v0 g_v1 g_d0 g_d1 g_r ns g_1 f n g_2 m g_3 N g_4
  cases h
  simp only [AllP.cons] at hp
  obtain ⟨Hg_1,Hg_2,Hg_3,Hg_4,hp⟩:=hp
  exact Spec.blocks (enterBH (Hold.of (r86 (M.Gd.mk g_w g_h g_s g_v0 g_v1 g_d0 g_d1 g_r) ns (cI g_1 0) n (fun i=>M.Sc.mk (cI g_2 0 i) (cI g_2 1 i) (cI g_2 2 i) (cI g_2 3 i) (cI g_2 4 i)) m (fun i=>M.Pk.mk (cI g_3 0 i) (cI g_3 1 i) (cI g_3 2 i) (cI g_3 3 i) (cI g_3 4 i) (cI g_3 5 i)) f N (fun i=>M.Sc.mk (cI g_4 0 i) (cI g_4 1 i) (cI g_4 2 i) (cI g_4 3 i) (cI g_4 4 i))) (br86 (M.Gd.mk g_w g_h g_s g_v0 g_v1 g_d0 g_d1 g_r) ns (cI g_1 0) n (fun i=>M.Sc.mk (cI g_2 0 i) (cI g_2 1 i) (cI g_2 2 i) (cI g_2 3 i) (cI g_2 4 i)) m (fun i=>M.Pk.mk (cI g_3 0 i) (cI g_3 1 i) (cI g_3 2 i) (cI g_3 3 i) (cI g_3 4 i) (cI g_3 5 i)) f N (fun i=>M.Sc.mk (cI g_4 0 i) (cI g_4 1 i) (cI g_4 2 i) (cI g_4 3 i) (cI g_4 4 i)) )) (.nil) (.nil) (k:=86) (by kernel_rfl) (by kernel_rfl) rfl (fun _=>.nil)) (.cells (.cons (.refl _) (.cons (.refl _) (.cons (.refl _) (.cons (.refl _) (.cons (.refl _) (.cons (.refl _) (.cons (.refl _) (.cons (.refl _) (.cons (.row Hg_1 fun _=>rfl) (.cons (.refl _) (.cons (.refl _) (.cons (.row Hg_2 fun _=>rfl) (.cons (.row Hg_3 fun _=>rfl) (.cons (.row Hg_4 fun _=>rfl) .nil)))))))))))))) .nil)
 ·cases h
def e51:EntB
 | [.ptr 0 0],[.cells [.int .i64 g_w,.int .i64 g_h,.int .i64 g_s,.int .i64 g_v0,.int .i64 g_v1,.int .i64 g_d0,.int .i64 g_d1,.int .i64 g_r,.sl 1 ns g_1,.int .i64 f,.bool true,.sl 5 n g_2,.sl 6 m g_3,.sl 5 N g_4]]=>some ([Row 1 ns g_1,Row 5 n g_2,Row 6 m g_3,Row 5 N g_4,N≤100000],.sl 5 N (fun k=>[SI (M.Sc.k ((fun i=>M.Sc.mk (cI g_4 0 i) (cI g_4 1 i) (cI g_4 2 i) (cI g_4 3 i) (cI g_4 4 i)) k)),SI (M.Sc.c ((fun i=>M.Sc.mk (cI g_4 0 i) (cI g_4 1 i) (cI g_4 2 i) (cI g_4 3 i) (cI g_4 4 i)) k)),SI (M.Sc.q ((fun i=>M.Sc.mk (cI g_4 0 i) (cI g_4 1 i) (cI g_4 2 i) (cI g_4 3 i) (cI g_4 4 i)) k)),SI (M.Sc.a ((fun i=>M.Sc.mk (cI g_4 0 i) (cI g_4 1 i) (cI g_4 2 i) (cI g_4 3 i) (cI g_4 4 i)) k)),SI (M.Sc.b ((fun i=>M.Sc.mk (cI g_4 0 i) (cI g_4 1 i) (cI g_4 2 i) (cI g_4 3 i) (cI g_4 4 i)) k))]),[.cells [SI (M.Gd.w (M.Gd.mk g_w g_h g_s g_v0 g_v1 g_d0 g_d1 g_r)),SI (M.Gd.h (M.Gd.mk g_w g_h g_s g_v0 g_v1 g_d0 g_d1 g_r)),SI (M.Gd.s (M.Gd.mk g_w g_h g_s g_v0 g_v1 g_d0 g_d1 g_r)),SI (M.Gd.v0 (M.Gd.mk g_w g_h g_s g_v0 g_v1 g_d0 g_d1 g_r)),SI (M.Gd.v1 (M.Gd.mk g_w g_h g_s g_v0 g_v1 g_d0 g_d1 g_r)),SI (M.Gd.d0 (M.Gd.mk g_w g_h g_s g_v0 g_v1 g_d0 g_d1 g_r)),SI (M.Gd.d1 (M.Gd.mk g_w g_h g_s g_v0 g_v1 g_d0 g_d1 g_r)),SI (M.Gd.r (M.Gd.mk g_w g_h g_s g_v0 g_v1 g_d0 g_d1 g_r)),.sl 1 ns (fun k=>[SI ((cI g_1 0) k)]),SI f,.bool true,.sl 5 n (fun k=>[SI (M.Sc.k ((fun i=>M.Sc.mk (cI g_2 0 i) (cI g_2 1 i) (cI g_2 2 i) (cI g_2 3 i) (cI g_2 4 i)) k)),SI (M.Sc.c ((fun i=>M.Sc.mk (cI g_2 0 i) (cI g_2 1 i) (cI g_2 2 i) (cI g_2 3 i) (cI g_2 4 i)) k)),SI (M.Sc.q ((fun i=>M.Sc.mk (cI g_2 0 i) (cI g_2 1 i) (cI g_2 2 i) (cI g_2 3 i) (cI g_2 4 i)) k)),SI (M.Sc.a ((fun i=>M.Sc.mk (cI g_2 0 i) (cI g_2 1 i) (cI g_2 2 i) (cI g_2 3 i) (cI g_2 4 i)) k)),SI (M.Sc.b ((fun i=>M.Sc.mk (cI g_2 0 i) (cI g_2 1 i) (cI g_2 2 i) (cI g_2 3 i) (cI g_2 4 i)) k))]),.sl 6 m (fun k=>[SI (M.Pk.k ((fun i=>M.Pk.mk (cI g_3 0 i) (cI g_3 1 i) (cI g_3 2 i) (cI g_3 3 i) (cI g_3 4 i) (cI g_3 5 i)) k)),SI (M.Pk.s ((fun i=>M.Pk.mk (cI g_3 0 i) (cI g_3 1 i) (cI g_3 2 i) (cI g_3 3 i) (cI g_3 4 i) (cI g_3 5 i)) k)),SI (M.Pk.t0 ((fun i=>M.Pk.mk (cI g_3 0 i) (cI g_3 1 i) (cI g_3 2 i) (cI g_3 3 i) (cI g_3 4 i) (cI g_3 5 i)) k)),SI (M.Pk.t1 ((fun i=>M.Pk.mk (cI g_3 0 i) (cI g_3 1 i) (cI g_3 2 i) (cI g_3 3 i) (cI g_3 4 i) (cI g_3 5 i)) k)),SI (M.Pk.l0 ((fun i=>M.Pk.mk (cI g_3 0 i) (cI g_3 1 i) (cI g_3 2 i) (cI g_3 3 i) (cI g_3 4 i) (cI g_3 5 i)) k)),SI (M.Pk.l1 ((fun i=>M.Pk.mk (cI g_3 0 i) (cI g_3 1 i) (cI g_3 2 i) (cI g_3 3 i) (cI g_3 4 i) (cI g_3 5 i)) k))]),.sl 5 N (fun k=>[SI (M.Sc.k ((fun i=>M.Sc.mk (cI g_4 0 i) (cI g_4 1 i) (cI g_4 2 i) (cI g_4 3 i) (cI g_4 4 i)) k)),SI (M.Sc.c ((fun i=>M.Sc.mk (cI g_4 0 i) (cI g_4 1 i) (cI g_4 2 i) (cI g_4 3 i) (cI g_4 4 i)) k)),SI (M.Sc.q ((fun i=>M.Sc.mk (cI g_4 0 i) (cI g_4 1 i) (cI g_4 2 i) (cI g_4 3 i) (cI g_4 4 i)) k)),SI (M.Sc.a ((fun i=>M.Sc.mk (cI g_4 0 i) (cI g_4 1 i) (cI g_4 2 i) (cI g_4 3 i) (cI g_4 4 i)) k)),SI (M.Sc.b ((fun i=>M.Sc.mk (cI g_4 0 i) (cI g_4 1 i) (cI g_4 2 i) (cI g_4 3 i) (cI g_4 4 i)) k))])]])
 | _,_=>none
def Rr51 (g:M.Gd) (ns:Nat) (x:Nat→Int) (n:Nat) (S:Nat→M.Sc) (m:Nat) (P:Nat→M.Pk) (f:Int) (N:Nat) (L:Nat→M.Sc):Prop:=(fun (z1:Prop)=>(fun (z0:Prop)=>(∀ (k:Nat),k<ns→x k=x k)∧(∀ (k:Nat),k<n→(S k).k=(S k).k∧(S k).c=(S k).c∧(S k).q=(S k).q∧(S k).a=(S k).a∧(S k).b=(S k).b)∧(∀ (k:Nat),k<m→(P k).k=(P k).k∧(P k).s=(P k).s∧(P k).t0=(P k).t0∧(P k).t1=(P k).t1∧(P k).l0=(P k).l0∧(P k).l1=(P k).l1)∧z1∧((!true)=true→z0∧N=(0:Nat))∧((!true)=false→z1∧N≤(100000:Nat)∧z0∧N=N∧z1)) (g.w=g.w∧g.h=g.h∧g.s=g.s∧g.v0=g.v0∧g.v1=g.v1∧g.d0=g.d0∧g.d1=g.d1∧g.r=g.r∧(ns=ns∧∀ (k:Nat),k<ns→x k=x k)∧f=f∧true=true∧(n=n∧∀ (k:Nat),k<n→(S k).k=(S k).k∧(S k).c=(S k).c∧(S k).q=(S k).q∧(S k).a=(S k).a∧(S k).b=(S k).b)∧(m=m∧∀ (k:Nat),k<m→(P k).k=(P k).k∧(P k).s=(P k).s∧(P k).t0=(P k).t0∧(P k).t1=(P k).t1∧(P k).l0=(P k).l0∧(P k).l1=(P k).l1)∧N=N∧z1)) (∀ (k:Nat),k<N→(L k).k=(L k).k∧(L k).c=(L k).c∧(L k).q=(L k).q∧(L k).a=(L k).a∧(L k).b=(L k).b)
theorem r51 (g:M.Gd) (ns:Nat) (x:Nat→Int) (n:Nat) (S:Nat→M.Sc) (m:Nat) (P:Nat→M.Pk) (f:Int) (N:Nat) (L:Nat→M.Sc):VB true [] [(86,specE e86),(85,pureE e85)] Try.f51 [0,2,5] [] [.ptr 0 0] [.cells [SI (M.Gd.w g),SI (M.Gd.h g),SI (M.Gd.s g),SI (M.Gd.v0 g),SI (M.Gd.v1 g),SI (M.Gd.d0 g),SI (M.Gd.d1 g),SI (M.Gd.r g),.sl 1 ns (fun k=>[SI (x k)]),SI f,.bool true,.sl 5 n (fun k=>[SI (M.Sc.k (S k)),SI (M.Sc.c (S k)),SI (M.Sc.q (S k)),SI (M.Sc.a (S k)),SI (M.Sc.b (S k))]),.sl 6 m (fun k=>[SI (M.Pk.k (P k)),SI (M.Pk.s (P k)),SI (M.Pk.t0 (P k)),SI (M.Pk.t1 (P k)),SI (M.Pk.l0 (P k)),SI (M.Pk.l1 (P k))]),.sl 5 N (fun k=>[SI (M.Sc.k (L k)),SI (M.Sc.c (L k)),SI (M.Sc.q (L k)),SI (M.Sc.a (L k)),SI (M.Sc.b (L k))])]] (.sl 5 N (fun k=>[SI (M.Sc.k (L k)),SI (M.Sc.c (L k)),SI (M.Sc.q (L k)),SI (M.Sc.a (L k)),SI (M.Sc.b (L k))])) [.cells [SI (M.Gd.w g),SI (M.Gd.h g),SI (M.Gd.s g),SI (M.Gd.v0 g),SI (M.Gd.v1 g),SI (M.Gd.d0 g),SI (M.Gd.d1 g),SI (M.Gd.r g),.sl 1 ns (fun k=>[SI (x k)]),SI f,.bool true,.sl 5 n (fun k=>[SI (M.Sc.k (S k)),SI (M.Sc.c (S k)),SI (M.Sc.q (S k)),SI (M.Sc.a (S k)),SI (M.Sc.b (S k))]),.sl 6 m (fun k=>[SI (M.Pk.k (P k)),SI (M.Pk.s (P k)),SI (M.Pk.t0 (P k)),SI (M.Pk.t1 (P k)),SI (M.Pk.l0 (P k)),SI (M.Pk.l1 (P k))]),.sl 5 N (fun k=>[SI (M.Sc.k (L k)),SI (M.Sc.c (L k)),SI (M.Sc.q (L k)),SI (M.Sc.a (L k)),SI (M.Sc.b (L k))])]]=Rr51 g ns x n S m P f N L:=by kernel_rfl
theorem br51 (g:M.Gd) (ns:Nat) (x:Nat→Int) (n:Nat) (S:Nat→M.Sc) (m:Nat) (P:Nat→M.Pk) (f:Int) (N:Nat) (L:Nat→M.Sc) (hp:(N≤100000)∧AllP []):Rr51 g ns x n S m P f N L:=by
 unfold Rr51
 dsimp -iota -proj -eta -zeta only
 simp
 exact (id hp).1
theorem s51:SpecOK PP 51 e51:=by
 intro xs Hs ps res Hs1 h hp
 unfold e51 at h
 split at h
 ·rename_i g_w g_h g_s g_v0 g_v1 g_d0 g_d1 g_r ns g_1 f n g_2 m g_3 N g_4
  cases h
  simp only [AllP.cons] at hp
  obtain ⟨Hg_1,Hg_2,Hg_3,Hg_4,hp⟩:=hp
  exact Spec.blocks (enterBH (Hold.of (r51 (M.Gd.mk g_w g_h g_s g_v0 g_v1 g_d0 g_d1 g_r) ns (cI g_1 0) n (fun i=>M.Sc.mk (cI g_2 0 i) (cI g_2 1 i) (cI g_2 2 i) (cI g_2 3 i) (cI g_2 4 i)) m (fun i=>M.Pk.mk (cI g_3 0 i) (cI g_3 1 i) (cI g_3 2 i) (cI g_3 3 i) (cI g_3 4 i) (cI g_3 5 i)) f N (fun i=>M.Sc.mk (cI g_4 0 i) (cI g_4 1 i) (cI g_4 2 i) (cI g_4 3 i) (cI g_4 4 i))) (br51 (M.Gd.mk g_w g_h g_s g_v0 g_v1 g_d0 g_d1 g_r) ns (cI g_1 0) n (fun i=>M.Sc.mk (cI g_2 0 i) (cI g_2 1 i) (cI g_2 2 i) (cI g_2 3 i) (cI g_2 4 i)) m (fun i=>M.Pk.mk (cI g_3 0 i) (cI g_3 1 i) (cI g_3 2 i) (cI g_3 3 i) (cI g_3 4 i) (cI g_3 5 i)) f N (fun i=>M.Sc.mk (cI g_4 0 i) (cI g_4 1 i) (cI g_4 2 i) (cI g_4 3 i) (cI g_4 4 i)) hp)) (.nil) (.cons (specE_ok s86) (.cons (pureE_ok s85) (.nil))) (k:=51) (by kernel_rfl) (by kernel_rfl) rfl (fun _=>.nil)) (.cells (.cons (.refl _) (.cons (.refl _) (.cons (.refl _) (.cons (.refl _) (.cons (.refl _) (.cons (.refl _) (.cons (.refl _) (.cons (.refl _) (.cons (.row Hg_1 fun _=>rfl) (.cons (.refl _) (.cons (.refl _) (.cons (.row Hg_2 fun _=>rfl) (.cons (.row Hg_3 fun _=>rfl) (.cons (.row Hg_4 fun _=>rfl) .nil)))))))))))))) .nil)
 ·cases h
def e60s:List SV→Option (List Prop × SV)
 | [.agg [.int .i64 g_w,.int .i64 g_h,.int .i64 g_s,.int .i64 g_v0,.int .i64 g_v1,.int .i64 g_d0,.int .i64 g_d1,.int .i64 g_r,.sl 1 ns g_1,.int .i64 f],.sl 5 n g_2,.sl 6 m g_3]=>some ([Row 1 ns g_1,Row 5 n g_2,Row 6 m g_3,M.Gd.Ck (M.Gd.mk g_w g_h g_s g_v0 g_v1 g_d0 g_d1 g_r) ns (cI g_1 0) n (fun i=>M.Sc.mk (cI g_2 0 i) (cI g_2 1 i) (cI g_2 2 i) (cI g_2 3 i) (cI g_2 4 i)) m (fun i=>M.Pk.mk (cI g_3 0 i) (cI g_3 1 i) (cI g_3 2 i) (cI g_3 3 i) (cI g_3 4 i) (cI g_3 5 i)) f],.sl 5 (M.Gd.leN (M.Gd.mk g_w g_h g_s g_v0 g_v1 g_d0 g_d1 g_r) (cI g_1 0) (fun i=>M.Sc.mk (cI g_2 0 i) (cI g_2 1 i) (cI g_2 2 i) (cI g_2 3 i) (cI g_2 4 i)) m (fun i=>M.Pk.mk (cI g_3 0 i) (cI g_3 1 i) (cI g_3 2 i) (cI g_3 3 i) (cI g_3 4 i) (cI g_3 5 i)) f n) (fun k=>[SI (M.Gd.leR (M.Gd.mk g_w g_h g_s g_v0 g_v1 g_d0 g_d1 g_r) (cI g_1 0) (fun i=>M.Sc.mk (cI g_2 0 i) (cI g_2 1 i) (cI g_2 2 i) (cI g_2 3 i) (cI g_2 4 i)) m (fun i=>M.Pk.mk (cI g_3 0 i) (cI g_3 1 i) (cI g_3 2 i) (cI g_3 3 i) (cI g_3 4 i) (cI g_3 5 i)) f n k).k,SI (M.Gd.leR (M.Gd.mk g_w g_h g_s g_v0 g_v1 g_d0 g_d1 g_r) (cI g_1 0) (fun i=>M.Sc.mk (cI g_2 0 i) (cI g_2 1 i) (cI g_2 2 i) (cI g_2 3 i) (cI g_2 4 i)) m (fun i=>M.Pk.mk (cI g_3 0 i) (cI g_3 1 i) (cI g_3 2 i) (cI g_3 3 i) (cI g_3 4 i) (cI g_3 5 i)) f n k).c,SI (M.Gd.leR (M.Gd.mk g_w g_h g_s g_v0 g_v1 g_d0 g_d1 g_r) (cI g_1 0) (fun i=>M.Sc.mk (cI g_2 0 i) (cI g_2 1 i) (cI g_2 2 i) (cI g_2 3 i) (cI g_2 4 i)) m (fun i=>M.Pk.mk (cI g_3 0 i) (cI g_3 1 i) (cI g_3 2 i) (cI g_3 3 i) (cI g_3 4 i) (cI g_3 5 i)) f n k).q,SI (M.Gd.leR (M.Gd.mk g_w g_h g_s g_v0 g_v1 g_d0 g_d1 g_r) (cI g_1 0) (fun i=>M.Sc.mk (cI g_2 0 i) (cI g_2 1 i) (cI g_2 2 i) (cI g_2 3 i) (cI g_2 4 i)) m (fun i=>M.Pk.mk (cI g_3 0 i) (cI g_3 1 i) (cI g_3 2 i) (cI g_3 3 i) (cI g_3 4 i) (cI g_3 5 i)) f n k).a,SI (M.Gd.leR (M.Gd.mk g_w g_h g_s g_v0 g_v1 g_d0 g_d1 g_r) (cI g_1 0) (fun i=>M.Sc.mk (cI g_2 0 i) (cI g_2 1 i) (cI g_2 2 i) (cI g_2 3 i) (cI g_2 4 i)) m (fun i=>M.Pk.mk (cI g_3 0 i) (cI g_3 1 i) (cI g_3 2 i) (cI g_3 3 i) (cI g_3 4 i) (cI g_3 5 i)) f n k).b]))
 | _=>none
theorem s60s:PureOK PP 60 e60s:=by
 intro xs ps res h hp
 unfold e60s at h
 split at h
 ·rename_i g_w g_h g_s g_v0 g_v1 g_d0 g_d1 g_r ns g_1 f n g_2 m g_3
  cases h
  simp only [AllP.cons] at hp
  obtain ⟨Hg_1,Hg_2,Hg_3,hp⟩:=hp
  have h6:=s60 [.agg [.int .i64 g_w,.int .i64 g_h,.int .i64 g_s,.int .i64 g_v0,.int .i64 g_v1,.int .i64 g_d0,.int .i64 g_d1,.int .i64 g_r,.sl 1 ns g_1,.int .i64 f],.sl 5 n g_2,.sl 6 m g_3] _ _ rfl (AllP.cons.2 ⟨Hg_1,(AllP.cons.2 ⟨Hg_2,(AllP.cons.2 ⟨Hg_3,(AllP.cons.2 ⟨(hp.1),AllP.nil⟩)⟩)⟩)⟩)
  exact h6
 ·cases h
--#def PR(T) (fun k => [SI (M.Pk.k ($T k)), SI (M.Pk.s ($T k)), SI (M.Pk.t0 ($T k)), SI (M.Pk.t1 ($T k)), SI (M.Pk.l0 ($T k)), SI (M.Pk.l1 ($T k))])
def e48:EntB
 | [.ptr 0 0,.agg [.int .i64 p_k,.int .i64 p_s,.int .i64 p_t0,.int .i64 p_t1,.int .i64 p_l0,.int .i64 p_l1]],[.cells [.int .i64 g_w,.int .i64 g_h,.int .i64 g_s,.int .i64 g_v0,.int .i64 g_v1,.int .i64 g_d0,.int .i64 g_d1,.int .i64 g_r,.sl 1 ns g_1,.int .i64 f,.bool true,.sl 5 n g_2,.sl 6 m g_3,.sl 5 N g_4]]=>some ([Row 1 ns g_1,Row 5 n g_2,Row 6 m g_3,Row 5 N g_4,M.Gd.Ck (M.Gd.mk g_w g_h g_s g_v0 g_v1 g_d0 g_d1 g_r) ns (cI g_1 0) n (fun i=>M.Sc.mk (cI g_2 0 i) (cI g_2 1 i) (cI g_2 2 i) (cI g_2 3 i) (cI g_2 4 i)) m (fun i=>M.Pk.mk (cI g_3 0 i) (cI g_3 1 i) (cI g_3 2 i) (cI g_3 3 i) (cI g_3 4 i) (cI g_3 5 i)) f,N=M.Gd.leN (M.Gd.mk g_w g_h g_s g_v0 g_v1 g_d0 g_d1 g_r) (cI g_1 0) (fun i=>M.Sc.mk (cI g_2 0 i) (cI g_2 1 i) (cI g_2 2 i) (cI g_2 3 i) (cI g_2 4 i)) m (fun i=>M.Pk.mk (cI g_3 0 i) (cI g_3 1 i) (cI g_3 2 i) (cI g_3 3 i) (cI g_3 4 i) (cI g_3 5 i)) f n,∀ k,k<N→(fun i=>M.Sc.mk (cI g_4 0 i) (cI g_4 1 i) (cI g_4 2 i) (cI g_4 3 i) (cI g_4 4 i)) k=M.Gd.leR (M.Gd.mk g_w g_h g_s g_v0 g_v1 g_d0 g_d1 g_r) (cI g_1 0) (fun i=>M.Sc.mk (cI g_2 0 i) (cI g_2 1 i) (cI g_2 2 i) (cI g_2 3 i) (cI g_2 4 i)) m (fun i=>M.Pk.mk (cI g_3 0 i) (cI g_3 1 i) (cI g_3 2 i) (cI g_3 3 i) (cI g_3 4 i) (cI g_3 5 i)) f n k],.tup [SI (if M.adE ns m (M.Pk.mk p_k p_s p_t0 p_t1 p_l0 p_l1)=0 then (N:Int)-M.Gd.leN (M.Gd.mk g_w g_h g_s g_v0 g_v1 g_d0 g_d1 g_r) (cI g_1 0) (fun i=>M.Sc.mk (cI g_2 0 i) (cI g_2 1 i) (cI g_2 2 i) (cI g_2 3 i) (cI g_2 4 i)) (m+1) (M.snP m (fun i=>M.Pk.mk (cI g_3 0 i) (cI g_3 1 i) (cI g_3 2 i) (cI g_3 3 i) (cI g_3 4 i) (cI g_3 5 i)) (M.Pk.mk p_k p_s p_t0 p_t1 p_l0 p_l1)) f n else 0),SI (M.adE ns m (M.Pk.mk p_k p_s p_t0 p_t1 p_l0 p_l1))],[.cells [SI (M.Gd.w (M.Gd.mk g_w g_h g_s g_v0 g_v1 g_d0 g_d1 g_r)),SI (M.Gd.h (M.Gd.mk g_w g_h g_s g_v0 g_v1 g_d0 g_d1 g_r)),SI (M.Gd.s (M.Gd.mk g_w g_h g_s g_v0 g_v1 g_d0 g_d1 g_r)),SI (M.Gd.v0 (M.Gd.mk g_w g_h g_s g_v0 g_v1 g_d0 g_d1 g_r)),SI (M.Gd.v1 (M.Gd.mk g_w g_h g_s g_v0 g_v1 g_d0 g_d1 g_r)),SI (M.Gd.d0 (M.Gd.mk g_w g_h g_s g_v0 g_v1 g_d0 g_d1 g_r)),SI (M.Gd.d1 (M.Gd.mk g_w g_h g_s g_v0 g_v1 g_d0 g_d1 g_r)),SI (M.Gd.r (M.Gd.mk g_w g_h g_s g_v0 g_v1 g_d0 g_d1 g_r)),.sl 1 ns (fun k=>[SI ((cI g_1 0) k)]),SI f,.bool true,.sl 5 n (fun k=>[SI (M.Sc.k ((fun i=>M.Sc.mk (cI g_2 0 i) (cI g_2 1 i) (cI g_2 2 i) (cI g_2 3 i) (cI g_2 4 i)) k)),SI (M.Sc.c ((fun i=>M.Sc.mk (cI g_2 0 i) (cI g_2 1 i) (cI g_2 2 i) (cI g_2 3 i) (cI g_2 4 i)) k)),SI (M.Sc.q ((fun i=>M.Sc.mk (cI g_2 0 i) (cI g_2 1 i) (cI g_2 2 i) (cI g_2 3 i) (cI g_2 4 i)) k)),SI (M.Sc.a ((fun i=>M.Sc.mk (cI g_2 0 i) (cI g_2 1 i) (cI g_2 2 i) (cI g_2 3 i) (cI g_2 4 i)) k)),SI (M.Sc.b ((fun i=>M.Sc.mk (cI g_2 0 i) (cI g_2 1 i) (cI g_2 2 i) (cI g_2 3 i) (cI g_2 4 i)) k))]),.sl 6 (M.adM ns m (M.Pk.mk p_k p_s p_t0 p_t1 p_l0 p_l1)) (fun k=>[SI (M.Pk.k ((M.snP m (fun i=>M.Pk.mk (cI g_3 0 i) (cI g_3 1 i) (cI g_3 2 i) (cI g_3 3 i) (cI g_3 4 i) (cI g_3 5 i)) (M.Pk.mk p_k p_s p_t0 p_t1 p_l0 p_l1)) k)),SI (M.Pk.s ((M.snP m (fun i=>M.Pk.mk (cI g_3 0 i) (cI g_3 1 i) (cI g_3 2 i) (cI g_3 3 i) (cI g_3 4 i) (cI g_3 5 i)) (M.Pk.mk p_k p_s p_t0 p_t1 p_l0 p_l1)) k)),SI (M.Pk.t0 ((M.snP m (fun i=>M.Pk.mk (cI g_3 0 i) (cI g_3 1 i) (cI g_3 2 i) (cI g_3 3 i) (cI g_3 4 i) (cI g_3 5 i)) (M.Pk.mk p_k p_s p_t0 p_t1 p_l0 p_l1)) k)),SI (M.Pk.t1 ((M.snP m (fun i=>M.Pk.mk (cI g_3 0 i) (cI g_3 1 i) (cI g_3 2 i) (cI g_3 3 i) (cI g_3 4 i) (cI g_3 5 i)) (M.Pk.mk p_k p_s p_t0 p_t1 p_l0 p_l1)) k)),SI (M.Pk.l0 ((M.snP m (fun i=>M.Pk.mk (cI g_3 0 i) (cI g_3 1 i) (cI g_3 2 i) (cI g_3 3 i) (cI g_3 4 i) (cI g_3 5 i)) (M.Pk.mk p_k p_s p_t0 p_t1 p_l0 p_l1)) k)),SI (M.Pk.l1 ((M.snP m (fun i=>M.Pk.mk (cI g_3 0 i) (cI g_3 1 i) (cI g_3 2 i) (cI g_3 3 i) (cI g_3 4 i) (cI g_3 5 i)) (M.Pk.mk p_k p_s p_t0 p_t1 p_l0 p_l1)) k))]),.sl 5 (M.Gd.leN (M.Gd.mk g_w g_h g_s g_v0 g_v1 g_d0 g_d1 g_r) (cI g_1 0) (fun i=>M.Sc.mk (cI g_2 0 i) (cI g_2 1 i) (cI g_2 2 i) (cI g_2 3 i) (cI g_2 4 i)) (M.adM ns m (M.Pk.mk p_k p_s p_t0 p_t1 p_l0 p_l1)) (M.snP m (fun i=>M.Pk.mk (cI g_3 0 i) (cI g_3 1 i) (cI g_3 2 i) (cI g_3 3 i) (cI g_3 4 i) (cI g_3 5 i)) (M.Pk.mk p_k p_s p_t0 p_t1 p_l0 p_l1)) f n) (fun k=>[SI (M.Sc.k (M.Gd.leR (M.Gd.mk g_w g_h g_s g_v0 g_v1 g_d0 g_d1 g_r) (cI g_1 0) (fun i=>M.Sc.mk (cI g_2 0 i) (cI g_2 1 i) (cI g_2 2 i) (cI g_2 3 i) (cI g_2 4 i)) (M.adM ns m (M.Pk.mk p_k p_s p_t0 p_t1 p_l0 p_l1)) (M.snP m (fun i=>M.Pk.mk (cI g_3 0 i) (cI g_3 1 i) (cI g_3 2 i) (cI g_3 3 i) (cI g_3 4 i) (cI g_3 5 i)) (M.Pk.mk p_k p_s p_t0 p_t1 p_l0 p_l1)) f n k)),SI (M.Sc.c (M.Gd.leR (M.Gd.mk g_w g_h g_s g_v0 g_v1 g_d0 g_d1 g_r) (cI g_1 0) (fun i=>M.Sc.mk (cI g_2 0 i) (cI g_2 1 i) (cI g_2 2 i) (cI g_2 3 i) (cI g_2 4 i)) (M.adM ns m (M.Pk.mk p_k p_s p_t0 p_t1 p_l0 p_l1)) (M.snP m (fun i=>M.Pk.mk (cI g_3 0 i) (cI g_3 1 i) (cI g_3 2 i) (cI g_3 3 i) (cI g_3 4 i) (cI g_3 5 i)) (M.Pk.mk p_k p_s p_t0 p_t1 p_l0 p_l1)) f n k)),SI (M.Sc.q (M.Gd.leR (M.Gd.mk g_w g_h g_s g_v0 g_v1 g_d0 g_d1 g_r) (cI g_1 0) (fun i=>M.Sc.mk (cI g_2 0 i) (cI g_2 1 i) (cI g_2 2 i) (cI g_2 3 i) (cI g_2 4 i)) (M.adM ns m (M.Pk.mk p_k p_s p_t0 p_t1 p_l0 p_l1)) (M.snP m (fun i=>M.Pk.mk (cI g_3 0 i) (cI g_3 1 i) (cI g_3 2 i) (cI g_3 3 i) (cI g_3 4 i) (cI g_3 5 i)) (M.Pk.mk p_k p_s p_t0 p_t1 p_l0 p_l1)) f n k)),SI (M.Sc.a (M.Gd.leR (M.Gd.mk g_w g_h g_s g_v0 g_v1 g_d0 g_d1 g_r) (cI g_1 0) (fun i=>M.Sc.mk (cI g_2 0 i) (cI g_2 1 i) (cI g_2 2 i) (cI g_2 3 i) (cI g_2 4 i)) (M.adM ns m (M.Pk.mk p_k p_s p_t0 p_t1 p_l0 p_l1)) (M.snP m (fun i=>M.Pk.mk (cI g_3 0 i) (cI g_3 1 i) (cI g_3 2 i) (cI g_3 3 i) (cI g_3 4 i) (cI g_3 5 i)) (M.Pk.mk p_k p_s p_t0 p_t1 p_l0 p_l1)) f n k)),SI (M.Sc.b (M.Gd.leR (M.Gd.mk g_w g_h g_s g_v0 g_v1 g_d0 g_d1 g_r) (cI g_1 0) (fun i=>M.Sc.mk (cI g_2 0 i) (cI g_2 1 i) (cI g_2 2 i) (cI g_2 3 i) (cI g_2 4 i)) (M.adM ns m (M.Pk.mk p_k p_s p_t0 p_t1 p_l0 p_l1)) (M.snP m (fun i=>M.Pk.mk (cI g_3 0 i) (cI g_3 1 i) (cI g_3 2 i) (cI g_3 3 i) (cI g_3 4 i) (cI g_3 5 i)) (M.Pk.mk p_k p_s p_t0 p_t1 p_l0 p_l1)) f n k))])]])
 | _,_=>none
def Rr48 (g:M.Gd) (ns:Nat) (x:Nat→Int) (n:Nat) (S:Nat→M.Sc) (m:Nat) (P:Nat→M.Pk) (f:Int) (N:Nat) (L:Nat→M.Sc) (p:M.Pk):Prop:=(fun (z12:Bool) (z4 z5:Nat) (z11:Nat→M.Pk) (z3 z7 z8:Prop)=>(fun (z2:Int) (z0:Nat→M.Pk) (z6:Nat→M.Sc)=>(fun (z10:Nat) (z9:Nat→M.Sc) (z1:Prop)=>z8∧z3∧z7∧(∀ (k:Nat),k<N→(L k).k=(L k).k∧(L k).c=(L k).c∧(L k).q=(L k).q∧(L k).a=(L k).a∧(L k).b=(L k).b)∧((!true)=true→z1∧((0:Int)=z2)∧(1:Int)=M.adE ns m p)∧((!true)=false→(decide ((↑m:Int)=(64:Int))=true→z1∧((0:Int)=z2)∧(9:Int)=M.adE ns m p)∧(decide ((↑m:Int)=(64:Int))=false→z8∧ns≤(100000:Nat)∧(z12=true→z1∧((0:Int)=z2)∧M.Pk.vE ns p=M.adE ns m p)∧(z12=false→z7∧m≤(100000:Nat)∧z4+(1:Nat)≤(1:Nat)∧(∀ (k:Nat),k<(1:Nat)→true=true)∧m≤m∧z5*(48:Nat)≤(140737488355328:Nat)∧z4+z5≤z5∧z8∧z3∧(∀ (k:Nat),k<z5→((bif decide (z4+k<m) then (P (z4+k)).k else p.k)=bif decide (z4+k<m) then (P (z4+k)).k else p.k)∧((bif decide (z4+k<m) then (P (z4+k)).s else p.s)=bif decide (z4+k<m) then (P (z4+k)).s else p.s)∧((bif decide (z4+k<m) then (P (z4+k)).t0 else p.t0)=bif decide (z4+k<m) then (P (z4+k)).t0 else p.t0)∧((bif decide (z4+k<m) then (P (z4+k)).t1 else p.t1)=bif decide (z4+k<m) then (P (z4+k)).t1 else p.t1)∧((bif decide (z4+k<m) then (P (z4+k)).l0 else p.l0)=bif decide (z4+k<m) then (P (z4+k)).l0 else p.l0)∧(bif decide (z4+k<m) then (P (z4+k)).l1 else p.l1)=bif decide (z4+k<m) then (P (z4+k)).l1 else p.l1)∧M.Gd.Ck g ns x n S z5 z0 f∧R64 ((↑N:Int)-(↑z10:Int))∧(g.w=g.w∧g.h=g.h∧g.s=g.s∧g.v0=g.v0∧g.v1=g.v1∧g.d0=g.d0∧g.d1=g.d1∧g.r=g.r∧(ns=ns∧z8)∧f=f∧true=true∧(n=n∧z3)∧(z5=M.adM ns m p∧∀ (k:Nat),k<z5→(bif decide (z4+k<m) then (P (z4+k)).k else p.k)=(z11 k).k∧(bif decide (z4+k<m) then (P (z4+k)).s else p.s)=(z11 k).s∧(bif decide (z4+k<m) then (P (z4+k)).t0 else p.t0)=(z11 k).t0∧(bif decide (z4+k<m) then (P (z4+k)).t1 else p.t1)=(z11 k).t1∧(bif decide (z4+k<m) then (P (z4+k)).l0 else p.l0)=(z11 k).l0∧(bif decide (z4+k<m) then (P (z4+k)).l1 else p.l1)=(z11 k).l1)∧z10=M.Gd.leN g x S (M.adM ns m p) z11 f n∧∀ (k:Nat),k<z10→(z9 k).k=(z6 k).k∧(z9 k).c=(z6 k).c∧(z9 k).q=(z6 k).q∧(z9 k).a=(z6 k).a∧(z9 k).b=(z6 k).b)∧((↑N:Int)-(↑z10:Int)=z2)∧(0:Int)=M.adE ns m p)))) (M.Gd.leN g x S z5 z0 f n) (M.Gd.leR g x S z5 z0 f n) (g.w=g.w∧g.h=g.h∧g.s=g.s∧g.v0=g.v0∧g.v1=g.v1∧g.d0=g.d0∧g.d1=g.d1∧g.r=g.r∧(ns=ns∧z8)∧f=f∧true=true∧(n=n∧z3)∧(m=M.adM ns m p∧∀ (k:Nat),k<m→(P k).k=(z11 k).k∧(P k).s=(z11 k).s∧(P k).t0=(z11 k).t0∧(P k).t1=(z11 k).t1∧(P k).l0=(z11 k).l0∧(P k).l1=(z11 k).l1)∧N=M.Gd.leN g x S (M.adM ns m p) z11 f n∧∀ (k:Nat),k<N→(L k).k=(z6 k).k∧(L k).c=(z6 k).c∧(L k).q=(z6 k).q∧(L k).a=(z6 k).a∧(L k).b=(z6 k).b)) (if M.adE ns m p=(0:Int) then (↑N:Int)-(↑(M.Gd.leN g x S z5 z11 f n):Int) else (0:Int)) (fun i=>M.Pk.mk (bif decide (z4+i<m) then (P (z4+i)).k else p.k) (bif decide (z4+i<m) then (P (z4+i)).s else p.s) (bif decide (z4+i<m) then (P (z4+i)).t0 else p.t0) (bif decide (z4+i<m) then (P (z4+i)).t1 else p.t1) (bif decide (z4+i<m) then (P (z4+i)).l0 else p.l0) (bif decide (z4+i<m) then (P (z4+i)).l1 else p.l1)) (M.Gd.leR g x S (M.adM ns m p) z11 f n)) (!decide (M.Pk.vE ns p=(0:Int))) (0:Nat) (m+(1:Nat)) (M.snP m P p) (∀ (k:Nat),k<n→(S k).k=(S k).k∧(S k).c=(S k).c∧(S k).q=(S k).q∧(S k).a=(S k).a∧(S k).b=(S k).b) (∀ (k:Nat),k<m→(P k).k=(P k).k∧(P k).s=(P k).s∧(P k).t0=(P k).t0∧(P k).t1=(P k).t1∧(P k).l0=(P k).l0∧(P k).l1=(P k).l1) (∀ (k:Nat),k<ns→x k=x k)
theorem r48 (g:M.Gd) (ns:Nat) (x:Nat→Int) (n:Nat) (S:Nat→M.Sc) (m:Nat) (P:Nat→M.Pk) (f:Int) (N:Nat) (L:Nat→M.Sc) (p:M.Pk):VB true [] [(1000000,frzE),(86,specE e86),(87,pureE e87),(88,specE e88w),(60,pureE e60s)] Try.f48 [0,1,3,4,5,6,7,8,12,26] [] [.ptr 0 0,.agg [SI (M.Pk.k p),SI (M.Pk.s p),SI (M.Pk.t0 p),SI (M.Pk.t1 p),SI (M.Pk.l0 p),SI (M.Pk.l1 p)]] [.cells [SI (M.Gd.w g),SI (M.Gd.h g),SI (M.Gd.s g),SI (M.Gd.v0 g),SI (M.Gd.v1 g),SI (M.Gd.d0 g),SI (M.Gd.d1 g),SI (M.Gd.r g),.sl 1 ns (fun k=>[SI (x k)]),SI f,.bool true,.sl 5 n (fun k=>[SI (M.Sc.k (S k)),SI (M.Sc.c (S k)),SI (M.Sc.q (S k)),SI (M.Sc.a (S k)),SI (M.Sc.b (S k))]),.sl 6 m (fun k=>[SI (M.Pk.k (P k)),SI (M.Pk.s (P k)),SI (M.Pk.t0 (P k)),SI (M.Pk.t1 (P k)),SI (M.Pk.l0 (P k)),SI (M.Pk.l1 (P k))]),.sl 5 N (fun k=>[SI (M.Sc.k (L k)),SI (M.Sc.c (L k)),SI (M.Sc.q (L k)),SI (M.Sc.a (L k)),SI (M.Sc.b (L k))])]] (.tup [SI (if M.adE ns m p=0 then (N:Int)-M.Gd.leN g x S (m+1) (M.snP m P p) f n else 0),SI (M.adE ns m p)]) [.cells [SI (M.Gd.w g),SI (M.Gd.h g),SI (M.Gd.s g),SI (M.Gd.v0 g),SI (M.Gd.v1 g),SI (M.Gd.d0 g),SI (M.Gd.d1 g),SI (M.Gd.r g),.sl 1 ns (fun k=>[SI (x k)]),SI f,.bool true,.sl 5 n (fun k=>[SI (M.Sc.k (S k)),SI (M.Sc.c (S k)),SI (M.Sc.q (S k)),SI (M.Sc.a (S k)),SI (M.Sc.b (S k))]),.sl 6 (M.adM ns m p) (fun k=>[SI (M.Pk.k ((M.snP m P p) k)),SI (M.Pk.s ((M.snP m P p) k)),SI (M.Pk.t0 ((M.snP m P p) k)),SI (M.Pk.t1 ((M.snP m P p) k)),SI (M.Pk.l0 ((M.snP m P p) k)),SI (M.Pk.l1 ((M.snP m P p) k))]),.sl 5 (M.Gd.leN g x S (M.adM ns m p) (M.snP m P p) f n) (fun k=>[SI (M.Sc.k (M.Gd.leR g x S (M.adM ns m p) (M.snP m P p) f n k)),SI (M.Sc.c (M.Gd.leR g x S (M.adM ns m p) (M.snP m P p) f n k)),SI (M.Sc.q (M.Gd.leR g x S (M.adM ns m p) (M.snP m P p) f n k)),SI (M.Sc.a (M.Gd.leR g x S (M.adM ns m p) (M.snP m P p) f n k)),SI (M.Sc.b (M.Gd.leR g x S (M.adM ns m p) (M.snP m P p) f n k))])]]=Rr48 g ns x n S m P f N L p:=by kernel_rfl
theorem br48 (g:M.Gd) (ns:Nat) (x:Nat→Int) (n:Nat) (S:Nat→M.Sc) (m:Nat) (P:Nat→M.Pk) (f:Int) (N:Nat) (L:Nat→M.Sc) (p:M.Pk) (hp:(M.Gd.Ck g ns x n S m P f)∧(N=M.Gd.leN g x S m P f n)∧(∀ k,k<N→L k=M.Gd.leR g x S m P f n k)∧AllP []):Rr48 g ns x n S m P f N L p:=by
 unfold Rr48
 dsimp -iota -proj -eta -zeta only
 obtain ⟨hC,hN,hL,-⟩:=id hp
 obtain ⟨k1,k2,k3,⟨k4,k5⟩,k6,k7,k8⟩:=id hC
 have e3:(fun i=>M.Pk.mk (bif decide (0+i<m) then (P (0+i)).k else p.k) (bif decide (0+i<m) then (P (0+i)).s else p.s) (bif decide (0+i<m) then (P (0+i)).t0 else p.t0) (bif decide (0+i<m) then (P (0+i)).t1 else p.t1) (bif decide (0+i<m) then (P (0+i)).l0 else p.l0) (bif decide (0+i<m) then (P (0+i)).l1 else p.l1))=M.snP m P p:=by
  funext i
  unfold M.snP
  by_cases c:i<m
  ·simp [c]
  ·simp [c]
 simp only [e3]
 by_cases c0:m=64
 ·have hA:M.adE ns m p=9:=by unfold M.adE; rw [if_pos c0]
  have hM:M.adM ns m p=m:=by unfold M.adM; rw [hA]; rfl
  obtain ⟨y1,y2⟩:=@M.le_sn g x n S m P p f
  simp only [hA,hM,y1,y2]
  have hS:∀ k,k<m→M.snP m P p k=P k:=fun k hk=>M.snP_lt hk
  subst c0
  simp
  exact ⟨fun k hk=>by rw [hS k hk]; simp,hN,fun k hk=>by rw [hL k hk]; simp⟩
 ·have hA:M.adE ns m p=p.vE ns:=by unfold M.adE; rw [if_neg c0]
  by_cases c1:p.vE ns=0
  ·have hM:M.adM ns m p=m+1:=by unfold M.adM; rw [hA,if_pos c1]
   simp only [hA,hM]
   have c0':¬ (m:Int)=64:=by omega
   obtain ⟨hm,hC2⟩:=M.ck_sn hC (by rw [hA]; exact c1)
   have l1:=M.Gd.leN_le (g:=g) (x:=x) (s:=S) (m:=m+1) (P:=M.snP m P p) (f:=f) n
   have l2:=M.Gd.leN_le (g:=g) (x:=x) (s:=S) (m:=m) (P:=P) (f:=f) n
   have r1:R64 ((N:Int)-M.Gd.leN g x S (m+1) (M.snP m P p) f n):=by unfold R64; omega
   have e4:∀ (q:M.Pk→Int) (k:Nat),(bif decide (k<m) then q (P k) else q p)=q (M.snP m P p k):=fun q k=>by
    unfold M.snP
    by_cases c:k<m <;> simp [c]
   simp [c1]
   exact ⟨c0',fun _=>⟨by omega,by omega,by omega,hC2,r1,fun k _=>⟨e4 M.Pk.k k,e4 M.Pk.s k,e4 M.Pk.t0 k,e4 M.Pk.t1 k,e4 M.Pk.l0 k,e4 M.Pk.l1 k⟩⟩⟩
  ·have hM:M.adM ns m p=m:=by unfold M.adM; rw [hA,if_neg c1]
   obtain ⟨y1,y2⟩:=@M.le_sn g x n S m P p f
   simp only [hA,hM,y1,y2]
   have c0':¬ (m:Int)=64:=by omega
   have hS:∀ k,k<m→M.snP m P p k=P k:=fun k hk=>M.snP_lt hk
   simp [c1,c0']
   exact ⟨by omega,fun k hk=>by rw [hS k hk]; simp,hN,fun k hk=>by rw [hL k hk]; simp⟩
theorem s48:SpecOK PP 48 e48:=by
 intro xs Hs ps res Hs1 h hp
 unfold e48 at h
 split at h
 ·rename_i p_k p_s p_t0 p_t1 p_l0 p_l1 g_w g_h g_s g_v0 g_v1 g_d0 g_d1 g_r ns g_1 f n g_2 m g_3 N g_4
  cases h
  simp only [AllP.cons] at hp
  obtain ⟨Hg_1,Hg_2,Hg_3,Hg_4,hp⟩:=hp
  exact Spec.blocks (enterBH (Hold.of (r48 (M.Gd.mk g_w g_h g_s g_v0 g_v1 g_d0 g_d1 g_r) ns (cI g_1 0) n (fun i=>M.Sc.mk (cI g_2 0 i) (cI g_2 1 i) (cI g_2 2 i) (cI g_2 3 i) (cI g_2 4 i)) m (fun i=>M.Pk.mk (cI g_3 0 i) (cI g_3 1 i) (cI g_3 2 i) (cI g_3 3 i) (cI g_3 4 i) (cI g_3 5 i)) f N (fun i=>M.Sc.mk (cI g_4 0 i) (cI g_4 1 i) (cI g_4 2 i) (cI g_4 3 i) (cI g_4 4 i)) (M.Pk.mk p_k p_s p_t0 p_t1 p_l0 p_l1)) (br48 (M.Gd.mk g_w g_h g_s g_v0 g_v1 g_d0 g_d1 g_r) ns (cI g_1 0) n (fun i=>M.Sc.mk (cI g_2 0 i) (cI g_2 1 i) (cI g_2 2 i) (cI g_2 3 i) (cI g_2 4 i)) m (fun i=>M.Pk.mk (cI g_3 0 i) (cI g_3 1 i) (cI g_3 2 i) (cI g_3 3 i) (cI g_3 4 i) (cI g_3 5 i)) f N (fun i=>M.Sc.mk (cI g_4 0 i) (cI g_4 1 i) (cI g_4 2 i) (cI g_4 3 i) (cI g_4 4 i)) (M.Pk.mk p_k p_s p_t0 p_t1 p_l0 p_l1) hp)) (.nil) (.cons frzE_ok (.cons (specE_ok s86) (.cons (pureE_ok s87) (.cons (specE_ok s88w) (.cons (pureE_ok s60s) (.nil)))))) (k:=48) (by kernel_rfl) (by kernel_rfl) rfl (fun _=>.nil)) (.cells (.cons (.refl _) (.cons (.refl _) (.cons (.refl _) (.cons (.refl _) (.cons (.refl _) (.cons (.refl _) (.cons (.refl _) (.cons (.refl _) (.cons (.row Hg_1 fun _=>rfl) (.cons (.refl _) (.cons (.refl _) (.cons (.row Hg_2 fun _=>rfl) (.cons (.row Hg_3 fun _=>rfl) (.cons (.row Hg_4 fun _=>rfl) .nil)))))))))))))) .nil)
 ·cases h
end Go.Proofs.Ytoncoofmijjgeaa.Sep
namespace Go.Proofs.Ytoncoofmijjgeaa.Sep
open Go
set_option linter.unusedVariables false
set_option linter.unusedSimpArgs false
end Go.Proofs.Ytoncoofmijjgeaa.Sep
namespace Go.Proofs.Ytoncoofmijjgeaa.Sep
open Go
set_option linter.unusedVariables false
set_option linter.unusedSimpArgs false
def e86z:List SV→Option (List Prop × SV)
 | [.lit (.pointer none)]=>some ([],.bool false)
 | _=>none
def Rr86z  : Prop:=((!true)=true→false=true)∧(bif !true then false else false)=false
theorem r86z  : V true [] [(1000001,clsE)] Try.f86 [0,2] [] [.lit (.pointer none)] (.bool false)=Rr86z  := by kernel_rfl
theorem br86z   : Rr86z  := by
 unfold Rr86z
 simp
theorem s86z:PureOK PP 86 e86z:=by
 intro xs ps res h hp
 unfold e86z at h
 split at h
 ·skip
  cases h
  clear hp
  exact enterH (Hold.of (r86z ) (br86z  )) (.nil) (.cons clsE_ok (.nil)) (k:=86) (by kernel_rfl) (by kernel_rfl) (fun _=>.nil)
 ·cases h
def e86e:EntB
 | [.ptr 0 0],[.cells [.int .i64 a0,.int .i64 a1,.int .i64 a2,.int .i64 a3,.int .i64 a4,.int .i64 a5,.int .i64 a6,.int .i64 a7,.lit (.slice none 0 0),.int .i64 a8,.bool false,.lit (.slice none 0 0),.lit (.slice none 0 0),.lit (.slice none 0 0)]]=>some ([],.bool false,[.cells [SI a0,SI a1,SI a2,SI a3,SI a4,SI a5,SI a6,SI a7,.lit (.slice none 0 0),SI a8,.bool false,.lit (.slice none 0 0),.lit (.slice none 0 0),.lit (.slice none 0 0)]])
 | _,_=>none
def Rr86e (a0 a1 a2 a3 a4 a5 a6 a7 a8:Int):Prop:=(fun (z0:Prop)=>(a0=a0∧a1=a1∧a2=a2∧a3=a3∧a4=a4∧a5=a5∧a6=a6∧a7=a7∧z0∧a8=a8∧false=false∧z0∧z0∧z0)∧(bif !false then false else false)=false) (Value.slice none (0:Nat) (0:Nat)=Value.slice none (0:Nat) (0:Nat))
theorem r86e (a0 a1 a2 a3 a4 a5 a6 a7 a8:Int):VB true [] [(1000001,clsE)] Try.f86 [0,2] [] [.ptr 0 0] [.cells [SI a0,SI a1,SI a2,SI a3,SI a4,SI a5,SI a6,SI a7,.lit (.slice none 0 0),SI a8,.bool false,.lit (.slice none 0 0),.lit (.slice none 0 0),.lit (.slice none 0 0)]] (.bool false) [.cells [SI a0,SI a1,SI a2,SI a3,SI a4,SI a5,SI a6,SI a7,.lit (.slice none 0 0),SI a8,.bool false,.lit (.slice none 0 0),.lit (.slice none 0 0),.lit (.slice none 0 0)]]=Rr86e a0 a1 a2 a3 a4 a5 a6 a7 a8:=by kernel_rfl
theorem br86e (a0 a1 a2 a3 a4 a5 a6 a7 a8:Int)  : Rr86e a0 a1 a2 a3 a4 a5 a6 a7 a8:=by
 unfold Rr86e
 dsimp -iota -proj -eta -zeta only
 simp
theorem s86e:SpecOK PP 86 e86e:=by
 intro xs Hs ps res Hs1 h hp
 unfold e86e at h
 split at h
 ·rename_i a0 a1 a2 a3 a4 a5 a6 a7 a8
  cases h
  clear hp
  exact enterBH (Hold.of (r86e a0 a1 a2 a3 a4 a5 a6 a7 a8) (br86e a0 a1 a2 a3 a4 a5 a6 a7 a8 )) (.nil) (.cons clsE_ok (.nil)) (k:=86) (by kernel_rfl) (by kernel_rfl) rfl (fun _=>.nil)
 ·cases h
def e48z:List SV→Option (List Prop × SV)
 | [.lit (.pointer none),.agg [.int .i64 p_k,.int .i64 p_s,.int .i64 p_t0,.int .i64 p_t1,.int .i64 p_l0,.int .i64 p_l1]]=>some ([],.tup [SI 0,SI 1])
 | _=>none
def Rr48z (p:M.Pk):Prop:=(0:Int)=(0:Int)∧(1:Int)=(1:Int)
theorem r48z (p:M.Pk):V true [] [(1000001,clsE),(86,pureE e86z)] Try.f48 [0,1,3,4,5,6,7,8,12,26] [] [.lit (.pointer none),.agg [SI (M.Pk.k p),SI (M.Pk.s p),SI (M.Pk.t0 p),SI (M.Pk.t1 p),SI (M.Pk.l0 p),SI (M.Pk.l1 p)]] (.tup [SI 0,SI 1])=Rr48z p:=by kernel_rfl
theorem br48z (p:M.Pk)  : Rr48z p:=by
 unfold Rr48z
 simp
theorem s48z:PureOK PP 48 e48z:=by
 intro xs ps res h hp
 unfold e48z at h
 split at h
 ·rename_i p_k p_s p_t0 p_t1 p_l0 p_l1
  cases h
  clear hp
  exact enterH (Hold.of (r48z (M.Pk.mk p_k p_s p_t0 p_t1 p_l0 p_l1)) (br48z (M.Pk.mk p_k p_s p_t0 p_t1 p_l0 p_l1) )) (.nil) (.cons clsE_ok (.cons (pureE_ok s86z) (.nil))) (k:=48) (by kernel_rfl) (by kernel_rfl) (fun _=>.nil)
 ·cases h
def e48e:EntB
 | [.ptr 0 0,.agg [.int .i64 p_k,.int .i64 p_s,.int .i64 p_t0,.int .i64 p_t1,.int .i64 p_l0,.int .i64 p_l1]],[.cells [.int .i64 a0,.int .i64 a1,.int .i64 a2,.int .i64 a3,.int .i64 a4,.int .i64 a5,.int .i64 a6,.int .i64 a7,.lit (.slice none 0 0),.int .i64 a8,.bool false,.lit (.slice none 0 0),.lit (.slice none 0 0),.lit (.slice none 0 0)]]=>some ([],.tup [SI 0,SI 1],[.cells [SI a0,SI a1,SI a2,SI a3,SI a4,SI a5,SI a6,SI a7,.lit (.slice none 0 0),SI a8,.bool false,.lit (.slice none 0 0),.lit (.slice none 0 0),.lit (.slice none 0 0)]])
 | _,_=>none
def Rr48e (a0 a1 a2 a3 a4 a5 a6 a7 a8:Int) (p:M.Pk):Prop:=(fun (z0:Prop)=>(a0=a0∧a1=a1∧a2=a2∧a3=a3∧a4=a4∧a5=a5∧a6=a6∧a7=a7∧z0∧a8=a8∧false=false∧z0∧z0∧z0)∧(0:Int)=(0:Int)∧(1:Int)=(1:Int)) (Value.slice none (0:Nat) (0:Nat)=Value.slice none (0:Nat) (0:Nat))
theorem r48e (a0 a1 a2 a3 a4 a5 a6 a7 a8:Int) (p:M.Pk):VB true [] [(1000001,clsE),(86,specE e86e)] Try.f48 [0,1,3,4,5,6,7,8,12,26] [] [.ptr 0 0,.agg [SI (M.Pk.k p),SI (M.Pk.s p),SI (M.Pk.t0 p),SI (M.Pk.t1 p),SI (M.Pk.l0 p),SI (M.Pk.l1 p)]] [.cells [SI a0,SI a1,SI a2,SI a3,SI a4,SI a5,SI a6,SI a7,.lit (.slice none 0 0),SI a8,.bool false,.lit (.slice none 0 0),.lit (.slice none 0 0),.lit (.slice none 0 0)]] (.tup [SI 0,SI 1]) [.cells [SI a0,SI a1,SI a2,SI a3,SI a4,SI a5,SI a6,SI a7,.lit (.slice none 0 0),SI a8,.bool false,.lit (.slice none 0 0),.lit (.slice none 0 0),.lit (.slice none 0 0)]]=Rr48e a0 a1 a2 a3 a4 a5 a6 a7 a8 p:=by kernel_rfl
theorem br48e (a0 a1 a2 a3 a4 a5 a6 a7 a8:Int) (p:M.Pk)  : Rr48e a0 a1 a2 a3 a4 a5 a6 a7 a8 p:=by
 unfold Rr48e
 dsimp -iota -proj -eta -zeta only
 simp
theorem s48e:SpecOK PP 48 e48e:=by
 intro xs Hs ps res Hs1 h hp
 unfold e48e at h
 split at h
 ·rename_i p_k p_s p_t0 p_t1 p_l0 p_l1 a0 a1 a2 a3 a4 a5 a6 a7 a8
  cases h
  clear hp
  exact enterBH (Hold.of (r48e a0 a1 a2 a3 a4 a5 a6 a7 a8 (M.Pk.mk p_k p_s p_t0 p_t1 p_l0 p_l1)) (br48e a0 a1 a2 a3 a4 a5 a6 a7 a8 (M.Pk.mk p_k p_s p_t0 p_t1 p_l0 p_l1) )) (.nil) (.cons clsE_ok (.cons (specE_ok s86e) (.nil))) (k:=48) (by kernel_rfl) (by kernel_rfl) rfl (fun _=>.nil)
 ·cases h
def e50z:List SV→Option (List Prop × SV)
 | [.lit (.pointer none)]=>some ([],.lit (.slice none 0 0))
 | _=>none
def Rr50z  : Prop:=Value.slice none (0:Nat) (0:Nat)=Value.slice none (0:Nat) (0:Nat)
theorem r50z  : V true [] [(1000001,clsE),(86,pureE e86z)] Try.f50 [0,2,5] [] [.lit (.pointer none)] (.lit (.slice none 0 0))=Rr50z  := by kernel_rfl
theorem br50z   : Rr50z  := by
 unfold Rr50z
 simp
theorem s50z:PureOK PP 50 e50z:=by
 intro xs ps res h hp
 unfold e50z at h
 split at h
 ·skip
  cases h
  clear hp
  exact enterH (Hold.of (r50z ) (br50z  )) (.nil) (.cons clsE_ok (.cons (pureE_ok s86z) (.nil))) (k:=50) (by kernel_rfl) (by kernel_rfl) (fun _=>.nil)
 ·cases h
def e51z:List SV→Option (List Prop × SV)
 | [.lit (.pointer none)]=>some ([],.lit (.slice none 0 0))
 | _=>none
def Rr51z  : Prop:=Value.slice none (0:Nat) (0:Nat)=Value.slice none (0:Nat) (0:Nat)
theorem r51z  : V true [] [(1000001,clsE),(86,pureE e86z)] Try.f51 [0,2,5] [] [.lit (.pointer none)] (.lit (.slice none 0 0))=Rr51z  := by kernel_rfl
theorem br51z   : Rr51z  := by
 unfold Rr51z
 simp
theorem s51z:PureOK PP 51 e51z:=by
 intro xs ps res h hp
 unfold e51z at h
 split at h
 ·skip
  cases h
  clear hp
  exact enterH (Hold.of (r51z ) (br51z  )) (.nil) (.cons clsE_ok (.cons (pureE_ok s86z) (.nil))) (k:=51) (by kernel_rfl) (by kernel_rfl) (fun _=>.nil)
 ·cases h
def e47z:List SV→Option (List Prop × SV)
 | [.lit (.pointer none)]=>some ([],.lit (.pointer none))
 | _=>none
def Rr47z  : Prop:=Value.pointer none=Value.pointer none
theorem r47z  : V true [] [(1000001,clsE),(86,pureE e86z)] Try.f47 [0,2,3,6] [] [.lit (.pointer none)] (.lit (.pointer none))=Rr47z  := by kernel_rfl
theorem br47z   : Rr47z  := by
 unfold Rr47z
 simp
theorem s47z:PureOK PP 47 e47z:=by
 intro xs ps res h hp
 unfold e47z at h
 split at h
 ·skip
  cases h
  clear hp
  exact enterH (Hold.of (r47z ) (br47z  )) (.nil) (.cons clsE_ok (.cons (pureE_ok s86z) (.nil))) (k:=47) (by kernel_rfl) (by kernel_rfl) (fun _=>.nil)
 ·cases h
def e55n:EntB
 | [],[]=>some ([],.vec 0 6 0 2,[.row 6 2 (fun k=>[SI (M.exP k).k,SI (M.exP k).s,SI (M.exP k).t0,SI (M.exP k).t1,SI (M.exP k).l0,SI (M.exP k).l1])])
 | _,_=>none
def Rr55n:Prop:=(fun (z0:Int) (z1 z2:Nat)=>z1=z1∧(2:Nat)=(2:Nat)∧(2:Nat)≤(2:Nat)∧(∀ (k:Nat),k<(2:Nat)→(bif decide (k=z2) then (1:Int) else bif decide (k=z1) then (1:Int) else z0)=(M.exP k).k∧(bif decide (k=z2) then (1:Int) else bif decide (k=z1) then z0 else z0)=(M.exP k).s∧(bif decide (k=z2) then (5000:Int) else bif decide (k=z1) then (8000:Int) else z0)=(M.exP k).t0∧(bif decide (k=z2) then (5000:Int) else bif decide (k=z1) then (8000:Int) else z0)=(M.exP k).t1∧(bif decide (k=z2) then z0 else bif decide (k=z1) then z0 else z0)=(M.exP k).l0∧(bif decide (k=z2) then z0 else bif decide (k=z1) then z0 else z0)=(M.exP k).l1)∧True) (0:Int) (0:Nat) (1:Nat)
theorem r55n  : VN true [] [(58,pureE e58)] Try.f55 [0] [] [] [] (.vec 0 6 0 2) [.row 6 2 (fun k=>[SI (M.exP k).k,SI (M.exP k).s,SI (M.exP k).t0,SI (M.exP k).t1,SI (M.exP k).l0,SI (M.exP k).l1])]=Rr55n  := by kernel_rfl
theorem br55n   : Rr55n  := by
 unfold Rr55n
 dsimp -iota -proj -eta -zeta only
 refine ⟨by omega,?_⟩
 simp
 intro k hk
 rcases k with _ | _ | k
 ·exact ⟨rfl,rfl,rfl,rfl,rfl,rfl⟩
 ·exact ⟨rfl,rfl,rfl,rfl,rfl,rfl⟩
 ·omega
theorem s55n:SpecOK PP 55 e55n:=by
 intro xs Hs ps res Hs1 h hp
 unfold e55n at h
 split at h
 ·skip
  cases h
  clear hp
  exact enterNH (Hold.of (r55n ) (br55n  )) (.nil) (.cons (pureE_ok s58) (.nil)) (k:=55) (by kernel_rfl) (by kernel_rfl) rfl (fun _=>.nil)
 ·cases h
def e45c:EntB
 | [.agg [.int .i64 g_w,.int .i64 g_h,.int .i64 g_s,.int .i64 g_v0,.int .i64 g_v1,.int .i64 g_d0,.int .i64 g_d1,.int .i64 g_r],.sl 1 ns g_1,.sl 5 n g_2,.int .i64 f],[]=>some ([Row 1 ns g_1,Row 5 n g_2,M.Gd.Ck (M.Gd.mk g_w g_h g_s g_v0 g_v1 g_d0 g_d1 g_r) ns (cI g_1 0) n (fun i=>M.Sc.mk (cI g_2 0 i) (cI g_2 1 i) (cI g_2 2 i) (cI g_2 3 i) (cI g_2 4 i)) 0 M.P0 f],.tup [.ptr 0 0,SI 0],[.cells [SI (M.Gd.w (M.Gd.mk g_w g_h g_s g_v0 g_v1 g_d0 g_d1 g_r)),SI (M.Gd.h (M.Gd.mk g_w g_h g_s g_v0 g_v1 g_d0 g_d1 g_r)),SI (M.Gd.s (M.Gd.mk g_w g_h g_s g_v0 g_v1 g_d0 g_d1 g_r)),SI (M.Gd.v0 (M.Gd.mk g_w g_h g_s g_v0 g_v1 g_d0 g_d1 g_r)),SI (M.Gd.v1 (M.Gd.mk g_w g_h g_s g_v0 g_v1 g_d0 g_d1 g_r)),SI (M.Gd.d0 (M.Gd.mk g_w g_h g_s g_v0 g_v1 g_d0 g_d1 g_r)),SI (M.Gd.d1 (M.Gd.mk g_w g_h g_s g_v0 g_v1 g_d0 g_d1 g_r)),SI (M.Gd.r (M.Gd.mk g_w g_h g_s g_v0 g_v1 g_d0 g_d1 g_r)),.sl 1 ns (fun k=>[SI ((cI g_1 0) k)]),SI f,.bool true,.sl 5 n (fun k=>[SI (M.Sc.k ((fun i=>M.Sc.mk (cI g_2 0 i) (cI g_2 1 i) (cI g_2 2 i) (cI g_2 3 i) (cI g_2 4 i)) k)),SI (M.Sc.c ((fun i=>M.Sc.mk (cI g_2 0 i) (cI g_2 1 i) (cI g_2 2 i) (cI g_2 3 i) (cI g_2 4 i)) k)),SI (M.Sc.q ((fun i=>M.Sc.mk (cI g_2 0 i) (cI g_2 1 i) (cI g_2 2 i) (cI g_2 3 i) (cI g_2 4 i)) k)),SI (M.Sc.a ((fun i=>M.Sc.mk (cI g_2 0 i) (cI g_2 1 i) (cI g_2 2 i) (cI g_2 3 i) (cI g_2 4 i)) k)),SI (M.Sc.b ((fun i=>M.Sc.mk (cI g_2 0 i) (cI g_2 1 i) (cI g_2 2 i) (cI g_2 3 i) (cI g_2 4 i)) k))]),.sl 6 0 (fun k=>[SI (M.Pk.k (M.P0 k)),SI (M.Pk.s (M.P0 k)),SI (M.Pk.t0 (M.P0 k)),SI (M.Pk.t1 (M.P0 k)),SI (M.Pk.l0 (M.P0 k)),SI (M.Pk.l1 (M.P0 k))]),.sl 5 (M.Gd.leN (M.Gd.mk g_w g_h g_s g_v0 g_v1 g_d0 g_d1 g_r) (cI g_1 0) (fun i=>M.Sc.mk (cI g_2 0 i) (cI g_2 1 i) (cI g_2 2 i) (cI g_2 3 i) (cI g_2 4 i)) 0 M.P0 f n) (fun k=>[SI (M.Gd.leR (M.Gd.mk g_w g_h g_s g_v0 g_v1 g_d0 g_d1 g_r) (cI g_1 0) (fun i=>M.Sc.mk (cI g_2 0 i) (cI g_2 1 i) (cI g_2 2 i) (cI g_2 3 i) (cI g_2 4 i)) 0 M.P0 f n k).k,SI (M.Gd.leR (M.Gd.mk g_w g_h g_s g_v0 g_v1 g_d0 g_d1 g_r) (cI g_1 0) (fun i=>M.Sc.mk (cI g_2 0 i) (cI g_2 1 i) (cI g_2 2 i) (cI g_2 3 i) (cI g_2 4 i)) 0 M.P0 f n k).c,SI (M.Gd.leR (M.Gd.mk g_w g_h g_s g_v0 g_v1 g_d0 g_d1 g_r) (cI g_1 0) (fun i=>M.Sc.mk (cI g_2 0 i) (cI g_2 1 i) (cI g_2 2 i) (cI g_2 3 i) (cI g_2 4 i)) 0 M.P0 f n k).q,SI (M.Gd.leR (M.Gd.mk g_w g_h g_s g_v0 g_v1 g_d0 g_d1 g_r) (cI g_1 0) (fun i=>M.Sc.mk (cI g_2 0 i) (cI g_2 1 i) (cI g_2 2 i) (cI g_2 3 i) (cI g_2 4 i)) 0 M.P0 f n k).a,SI (M.Gd.leR (M.Gd.mk g_w g_h g_s g_v0 g_v1 g_d0 g_d1 g_r) (cI g_1 0) (fun i=>M.Sc.mk (cI g_2 0 i) (cI g_2 1 i) (cI g_2 2 i) (cI g_2 3 i) (cI g_2 4 i)) 0 M.P0 f n k).b])]])
 | _,_=>none
def Rr45c (g:M.Gd) (ns:Nat) (x:Nat→Int) (n:Nat) (S:Nat→M.Sc) (f:Int):Prop:=(fun (z4:Bool) (z3 z5:Nat) (z1:Nat→M.Sc) (z0 z2:Prop)=>z2∧ns≤z5∧z0∧n≤z5∧z2∧z0∧ns≤z5∧n≤z5∧(z4=true→False)∧(z4=false→z2∧z0∧M.Gd.Ck g ns x n S (0:Nat) M.P0 f∧(0:Int)=(0:Int)∧g.w=g.w∧g.h=g.h∧g.s=g.s∧g.v0=g.v0∧g.v1=g.v1∧g.d0=g.d0∧g.d1=g.d1∧g.r=g.r∧(ns=ns∧z2)∧f=f∧true=true∧(n=n∧z0)∧(0:Nat)=(0:Nat)∧(z3=z3∧∀ (k:Nat),k<z3→(z1 k).k=(z1 k).k∧(z1 k).c=(z1 k).c∧(z1 k).q=(z1 k).q∧(z1 k).a=(z1 k).a∧(z1 k).b=(z1 k).b)∧True)) (!decide (M.Gd.ckE g ns x n S (0:Nat) M.P0 f=(0:Int))) (M.Gd.leN g x S (0:Nat) M.P0 f n) (100000:Nat) (M.Gd.leR g x S (0:Nat) M.P0 f n) (∀ (k:Nat),k<n→(S k).k=(S k).k∧(S k).c=(S k).c∧(S k).q=(S k).q∧(S k).a=(S k).a∧(S k).b=(S k).b) (∀ (k:Nat),k<ns→x k=x k)
theorem r45c (g:M.Gd) (ns:Nat) (x:Nat→Int) (n:Nat) (S:Nat→M.Sc) (f:Int):VN true [] [(1000000,frzE),(76,pureE e76s),(85,pureE e85),(59,pureE e59n),(60,pureE e60n)] Try.f45 [0,1,2,3,4,8,9,10,11,28] [] [.agg [SI (M.Gd.w g),SI (M.Gd.h g),SI (M.Gd.s g),SI (M.Gd.v0 g),SI (M.Gd.v1 g),SI (M.Gd.d0 g),SI (M.Gd.d1 g),SI (M.Gd.r g)],.sl 1 ns (fun k=>[SI (x k)]),.sl 5 n (fun k=>[SI (M.Sc.k (S k)),SI (M.Sc.c (S k)),SI (M.Sc.q (S k)),SI (M.Sc.a (S k)),SI (M.Sc.b (S k))]),SI f] [] (.tup [.ptr 0 0,SI 0]) [.cells [SI (M.Gd.w g),SI (M.Gd.h g),SI (M.Gd.s g),SI (M.Gd.v0 g),SI (M.Gd.v1 g),SI (M.Gd.d0 g),SI (M.Gd.d1 g),SI (M.Gd.r g),.sl 1 ns (fun k=>[SI (x k)]),SI f,.bool true,.sl 5 n (fun k=>[SI (M.Sc.k (S k)),SI (M.Sc.c (S k)),SI (M.Sc.q (S k)),SI (M.Sc.a (S k)),SI (M.Sc.b (S k))]),.sl 6 0 (fun k=>[SI (M.Pk.k (M.P0 k)),SI (M.Pk.s (M.P0 k)),SI (M.Pk.t0 (M.P0 k)),SI (M.Pk.t1 (M.P0 k)),SI (M.Pk.l0 (M.P0 k)),SI (M.Pk.l1 (M.P0 k))]),.sl 5 (M.Gd.leN g x S 0 M.P0 f n) (fun k=>[SI (M.Gd.leR g x S 0 M.P0 f n k).k,SI (M.Gd.leR g x S 0 M.P0 f n k).c,SI (M.Gd.leR g x S 0 M.P0 f n k).q,SI (M.Gd.leR g x S 0 M.P0 f n k).a,SI (M.Gd.leR g x S 0 M.P0 f n k).b])]]=Rr45c g ns x n S f:=by kernel_rfl
theorem br45c (g:M.Gd) (ns:Nat) (x:Nat→Int) (n:Nat) (S:Nat→M.Sc) (f:Int) (hp:(M.Gd.Ck g ns x n S 0 M.P0 f)∧AllP []):Rr45c g ns x n S f:=by
 unfold Rr45c
 dsimp -iota -proj -eta -zeta only
 obtain ⟨hC,-⟩:=id hp
 have e:=M.Gd.ckE_ok.2 hC
 obtain ⟨k1,k2,k3,⟨k4,k5⟩,k6,k7,k8⟩:=id hC
 simp [e,hC]
 omega
theorem s45c:SpecOK PP 45 e45c:=by
 intro xs Hs ps res Hs1 h hp
 unfold e45c at h
 split at h
 ·rename_i g_w g_h g_s g_v0 g_v1 g_d0 g_d1 g_r ns g_1 n g_2 f
  cases h
  simp only [AllP.cons] at hp
  obtain ⟨Hg_1,Hg_2,hp⟩:=hp
  exact Spec.args (enterNH (Hold.of (r45c (M.Gd.mk g_w g_h g_s g_v0 g_v1 g_d0 g_d1 g_r) ns (cI g_1 0) n (fun i=>M.Sc.mk (cI g_2 0 i) (cI g_2 1 i) (cI g_2 2 i) (cI g_2 3 i) (cI g_2 4 i)) f) (br45c (M.Gd.mk g_w g_h g_s g_v0 g_v1 g_d0 g_d1 g_r) ns (cI g_1 0) n (fun i=>M.Sc.mk (cI g_2 0 i) (cI g_2 1 i) (cI g_2 2 i) (cI g_2 3 i) (cI g_2 4 i)) f hp)) (.nil) (.cons frzE_ok (.cons (pureE_ok s76s) (.cons (pureE_ok s85) (.cons (pureE_ok s59n) (.cons (pureE_ok s60n) (.nil)))))) (k:=45) (by kernel_rfl) (by kernel_rfl) rfl (fun _=>.nil)) (.cons (.refl _) (.cons (.row Hg_1 fun _=>rfl) (.cons (.row Hg_2 fun _=>rfl) (.cons (.refl _) .nil))))
 ·cases h
instance {g:M.Gd} {ns:Nat} {x:Nat→Int} {n:Nat} {S:Nat→M.Sc} {m:Nat} {P:Nat→M.Pk} {f:Int} : Decidable (M.Gd.Ck g ns x n S m P f):=decidable_of_iff _ M.Gd.ckE_ok
def e15:List SV→Option (List Prop × SV)
 | []=>some ([],.bool true)
 | _=>none
def Rr15:Prop:=(fun (z6 z26 z38 z43 z44 z49 z58:Int) (z5 z21 z22 z32 z34 z57 z59:Nat) (z54:Prop)=>(fun (z56 z61:Int) (z1:M.Gd) (z3:M.Pk) (z24:M.Sc) (z46 z50 z51 z55:Nat) (z0 z4 z7 z11:Nat→List SV) (z9 z39:Nat→M.Pk) (z8 z16:Nat→M.Sc) (z23 z25 z42 z48 z53 z60 z65:Prop)=>(fun (z10 z27 z28 z36 z37 z40 z45:Nat) (z64:Nat→Int) (z13 z14 z15 z29:Nat→M.Sc) (z20 z63:Prop)=>(fun (z52:Int) (z17 z33 z35 z41 z62:Nat) (z12:Nat→M.Pk) (z2 z18 z30:Nat→M.Sc) (z19:Prop)=>(fun (z47:Nat) (z31:Nat→M.Sc)=>z5+z34≤z34∧(∀ (k:Nat),k<z34→(bif decide (z5+k=z57) then z58 else bif decide (z5+k=z59) then z43 else bif decide (z5+k=z21) then z38 else bif decide (z5+k=z22) then z26 else bif decide (z5+k=z5) then z6 else z6)=bif decide (z5+k=z57) then z58 else bif decide (z5+k=z59) then z43 else bif decide (z5+k=z21) then z38 else bif decide (z5+k=z22) then z26 else bif decide (z5+k=z5) then z6 else z6)∧z34≤z32∧z6≤z26∧z26≤z56∧z55+z50≤z21∧z25∧z19∧(∀ (k:Nat),k<z50→(M.exP (z55+k)).k=(M.exP (z55+k)).k∧(M.exP (z55+k)).s=(M.exP (z55+k)).s∧(M.exP (z55+k)).t0=(M.exP (z55+k)).t0∧(M.exP (z55+k)).t1=(M.exP (z55+k)).t1∧(M.exP (z55+k)).l0=(M.exP (z55+k)).l0∧(M.exP (z55+k)).l1=(M.exP (z55+k)).l1)∧z42∧z10≤z32∧z50≤z32∧z6≤z38∧z38≤z43∧z43≤z61∧z48∧z25∧(∀ (k:Nat),k<Int.toNat z43-Int.toNat z38→z26=z26∧(↑(Int.toNat z38+k):Int)=(↑(Int.toNat z38+k):Int)∧z44=z44∧z53∧z54)∧z23∧z42∧Int.toNat z43-Int.toNat z38≤z32∧z42∧z19∧z20∧z10≤z32∧z34≤z32∧z5+z34≤z34∧(∀ (k:Nat),(k<z35)→(z2 k).k=(z2 k).k∧(z2 k).c=(z2 k).c∧(z2 k).q=(z2 k).q∧(z2 k).a=(z2 k).a∧(z2 k).b=(z2 k).b)∧(∀ (k:Nat),k<z34→((bif decide (z5+k=z57) then z26 else bif decide (z5+k=z59) then z26 else bif decide (z5+k=z21) then z26 else bif decide (z5+k=z22) then z26 else bif decide (z5+k=z5) then z26 else z6)=bif decide (z5+k=z57) then z26 else bif decide (z5+k=z59) then z26 else bif decide (z5+k=z21) then z26 else bif decide (z5+k=z22) then z26 else bif decide (z5+k=z5) then z26 else z6)∧(bif decide (z5+k=z57) then z58 else bif decide (z5+k=z59) then z43 else bif decide (z5+k=z21) then z38 else bif decide (z5+k=z22) then z26 else bif decide (z5+k=z5) then z6 else z6)=cI z4 z46 k∧(bif decide (z5+k=z57) then z44 else bif decide (z5+k=z59) then z44 else bif decide (z5+k=z21) then z44 else bif decide (z5+k=z22) then z44 else bif decide (z5+k=z5) then z44 else z6)=cI z4 (z46+z22) k∧(bif decide (z5+k=z57) then (2900:Int) else bif decide (z5+k=z59) then (3876:Int) else bif decide (z5+k=z21) then (4837:Int) else bif decide (z5+k=z22) then (5763:Int) else bif decide (z5+k=z5) then (6585:Int) else z6)=cI z4 z37 k∧(bif decide (z5+k=z57) then (6500:Int) else bif decide (z5+k=z59) then (7000:Int) else bif decide (z5+k=z21) then (7500:Int) else bif decide (z5+k=z22) then z49 else bif decide (z5+k=z5) then z49 else z6)=cI z4 z62 k)∧z35≤z32∧z34≤z32∧z63∧(∀ (k:Nat),(k<z27)→(z14 k).k=(z14 k).k∧(z14 k).c=(z14 k).c∧(z14 k).q=(z14 k).q∧(z14 k).a=(z14 k).a∧(z14 k).b=(z14 k).b)∧(∀ (k:Nat),k<z22→z26=z26∧z38=z38∧z44=z44∧(1837:Int)=(1837:Int)∧(7500:Int)=(7500:Int))∧z27≤z32∧z22≤z32∧z63∧(∀ (k:Nat),k<z22→true=true)∧z21≤z21∧z51*(48:Nat)≤(140737488355328:Nat)∧z6≤z58∧z58<z61∧Int.toNat z58<z34∧z5+z51≤z51∧z25∧(∀ (k:Nat),k<z51→((bif decide (z5+k<z21) then (M.exP (z5+k)).k else z38)=bif decide (z5+k<z21) then (M.exP (z5+k)).k else z38)∧((bif decide (z5+k<z21) then (M.exP (z5+k)).s else z6)=bif decide (z5+k<z21) then (M.exP (z5+k)).s else z6)∧((bif decide (z5+k<z21) then (M.exP (z5+k)).t0 else z6)=bif decide (z5+k<z21) then (M.exP (z5+k)).t0 else z6)∧((bif decide (z5+k<z21) then (M.exP (z5+k)).t1 else z6)=bif decide (z5+k<z21) then (M.exP (z5+k)).t1 else z6)∧((bif decide (z5+k<z21) then (M.exP (z5+k)).l0 else (470:Int))=bif decide (z5+k<z21) then (M.exP (z5+k)).l0 else (470:Int))∧(bif decide (z5+k<z21) then (M.exP (z5+k)).l1 else (480:Int))=bif decide (z5+k<z21) then (M.exP (z5+k)).l1 else (480:Int))∧z42∧z51≤z32∧z6≤z43∧z43<z61∧Int.toNat z43<z34∧z48∧z25∧z23∧z42∧z42∧z6≤z26∧z26≤z61∧z63∧z25∧(∀ (k:Nat),k<z50→z26=z26∧(↑(z5+k):Int)=(↑(z5+k):Int)∧z44=z44∧z53∧z54)∧(∀ (k:Nat),k<z22→z43=z43∧z53∧(6000:Int)=(6000:Int)∧(6000:Int)=(6000:Int)∧z53∧z53)∧z42∧z50≤z32∧z22≤z32∧z63∧(∀ (k:Nat),(k<z36)→z64 k=z64 k)∧(∀ (k:Nat),k<z22→z38=z38)∧z36≤z32∧z22≤z32∧z63∧(∀ (k:Nat),(k<z28)→(z15 k).k=(z15 k).k∧(z15 k).c=(z15 k).c∧(z15 k).q=(z15 k).q∧(z15 k).a=(z15 k).a∧(z15 k).b=(z15 k).b)∧(∀ (k:Nat),k<z22→z26=z26∧z53∧z44=z44∧(4586:Int)=(4586:Int)∧z54)∧z28≤z32∧z22≤z32∧z48∧z25∧z20∧z23∧z42∧z65∧z42∧z48∧z25∧z20∧(∀ (k:Nat),k<z21→((bif decide (z5+k=z22) then z43 else bif decide (z5+k=z5) then z26 else z6)=bif decide (z5+k=z22) then z43 else bif decide (z5+k=z5) then z26 else z6)∧(bif decide (z5+k=z22) then z6 else bif decide (z5+k=z5) then z6 else z6)=cI z7 z46 k∧(bif decide (z5+k=z22) then (20000:Int) else bif decide (z5+k=z5) then z49 else z6)=cI z7 (z46+z22) k∧(bif decide (z5+k=z22) then (20000:Int) else bif decide (z5+k=z5) then z49 else z6)=cI z7 z37 k∧(bif decide (z5+k=z22) then z6 else bif decide (z5+k=z5) then z6 else z6)=cI z7 z62 k∧(bif decide (z5+k=z22) then z6 else bif decide (z5+k=z5) then z6 else z6)=cI z7 (z62+z22) k)∧z42∧z65∧z42∧z48∧(∀ (k:Nat),k<z21→((bif decide (z5+k=z22) then z38 else bif decide (z5+k=z5) then z26 else z6)=bif decide (z5+k=z22) then z38 else bif decide (z5+k=z5) then z26 else z6)∧(bif decide (z5+k=z22) then z58 else bif decide (z5+k=z5) then z6 else z6)=cI z0 z46 k∧(bif decide (z5+k=z22) then z26 else bif decide (z5+k=z5) then z44 else z6)=cI z0 (z46+z22) k∧(bif decide (z5+k=z22) then z6 else bif decide (z5+k=z5) then z6 else z6)=cI z0 z37 k∧(bif decide (z5+k=z22) then (100000:Int) else bif decide (z5+k=z5) then (100:Int) else z6)=cI z0 z62 k)∧z42∧z48∧(∀ (k:Nat),(k<z41)→(z30 k).k=(z30 k).k∧(z30 k).c=(z30 k).c∧(z30 k).q=(z30 k).q∧(z30 k).a=(z30 k).a∧(z30 k).b=(z30 k).b)∧(∀ (k:Nat),k<z21→((bif decide (z5+k=z22) then z38 else bif decide (z5+k=z5) then z26 else z6)=bif decide (z5+k=z22) then z38 else bif decide (z5+k=z5) then z26 else z6)∧(bif decide (z5+k=z22) then z58 else bif decide (z5+k=z5) then z6 else z6)=cI z11 z46 k∧(bif decide (z5+k=z22) then z26 else bif decide (z5+k=z5) then z44 else z6)=cI z11 (z46+z22) k∧(bif decide (z5+k=z22) then (1500:Int) else bif decide (z5+k=z5) then z6 else z6)=cI z11 z37 k∧(bif decide (z5+k=z22) then (6200:Int) else bif decide (z5+k=z5) then (100:Int) else z6)=cI z11 z62 k)∧z41≤z32∧z42∧z25∧z20∧M.Gd.Ck z1 z21 M.exS z34 z8 z5 M.P0 z6∧z6≤z6∧z6<z56∧z60∧z25∧z20∧(∀ (k:Nat),k<z5→z53∧z53∧z53∧z53∧z53∧z53)∧(∀ (k:Nat),k<z40→(z29 k).k=(z29 k).k∧(z29 k).c=(z29 k).c∧(z29 k).q=(z29 k).q∧(z29 k).a=(z29 k).a∧(z29 k).b=(z29 k).b)∧M.Gd.Ck z1 z21 M.exS z34 z8 z5 z39 z6∧z40=M.Gd.leN z1 M.exS z8 z5 z39 z6 z34∧(∀ (k:Nat),k<z40→z29 k=M.Gd.leR z1 M.exS z8 z5 z39 z6 z34 k)∧z6≤z26∧z26<z56∧z5+Int.toNat z26<z21∧z25∧z20∧(∀ (k:Nat),k<z45→z26=z26∧z53∧z49=z49∧z49=z49∧z53∧z53)∧(∀ (k:Nat),k<z33→(z18 k).k=(z18 k).k∧(z18 k).c=(z18 k).c∧(z18 k).q=(z18 k).q∧(z18 k).a=(z18 k).a∧(z18 k).b=(z18 k).b)∧M.Gd.Ck z1 z21 M.exS z34 z8 z45 (fun i=>z3) z6∧z33=M.Gd.leN z1 M.exS z8 z45 (fun i=>z3) z6 z34∧(∀ (k:Nat),k<z33→z18 k=M.Gd.leR z1 M.exS z8 z45 (fun i=>z3) z6 z34 k)∧z6≤z6∧z6<z56∧z60∧z6≤z6∧z6<z56∧z60∧z25∧z20∧(∀ (k:Nat),k<z17→(z12 k).k=(z12 k).k∧(z12 k).s=(z12 k).s∧(z12 k).t0=(z12 k).t0∧(z12 k).t1=(z12 k).t1∧(z12 k).l0=(z12 k).l0∧(z12 k).l1=(z12 k).l1)∧(∀ (k:Nat),k<z47→(z31 k).k=(z31 k).k∧(z31 k).c=(z31 k).c∧(z31 k).q=(z31 k).q∧(z31 k).a=(z31 k).a∧(z31 k).b=(z31 k).b)∧z47≤z32∧(bif bif bif bif bif bif bif bif bif bif decide (M.adE z21 z5 z3=z6) then decide (z52=z6) else false then decide (z26=z26) else false then decide (z26=z26) else false then decide ((if M.adE z21 z5 z3=z6 then (↑z40:Int)-(↑(M.Gd.leN z1 M.exS z8 z46 (M.snP z5 z39 z3) z6 z34):Int) else z6)=z6) else false then decide ((if z52=z6 then (↑z33:Int)-(↑(M.Gd.leN z1 M.exS z8 (z45+z22) z12 z6 z34):Int) else z6)=z43) else false then decide ((↑z47:Int)=z38) else false then decide ((↑z5:Int)=z6) else false then decide ((↑z5:Int)=z6) else false then true else false then true else false)=true) (M.Gd.leN z1 M.exS z8 z17 z12 z6 z34) (M.Gd.leR z1 M.exS z8 z17 z12 z6 z34)) (M.adE z21 z45 (M.Pk.mk z26 z26 (5000:Int) (5000:Int) z6 z6)) (M.adM z21 z45 (M.Pk.mk z26 z26 (5000:Int) (5000:Int) z6 z6)) (M.Gd.leN z1 M.exS z8 z45 (M.snP z5 z39 z3) z6 z34) (if M.Gd.ckE z1 z21 M.exS z10 z16 z50 (fun i=>M.exP (z55+i)) z6=z6 then M.Gd.leN z1 M.exS z16 z50 (fun i=>M.exP (z55+i)) z6 z10 else z5) (if M.Gd.slE z1 z13 (1000:Int) z21=z6 then M.fmN (M.Gd.slO z1 z13 (1000:Int) z21) z21 else z5) (z37+z22) (M.snP z45 (fun i=>z3) (M.Pk.mk z26 z26 (5000:Int) (5000:Int) z6 z6)) (M.Gd.leR z1 M.exS z16 z50 (fun i=>M.exP (z55+i)) z6 z10) (M.Gd.leR z1 M.exS z8 z45 (M.snP z5 z39 z3) z6 z34) (M.fmR (M.Gd.slO z1 z13 (1000:Int) z21) z21) (∀ (k:Nat),(k<z10)→z26=z26∧((bif decide (z5+k/M.wid z44 z44=z57) then z58 else bif decide (z5+k/M.wid z44 z44=z59) then z43 else bif decide (z5+k/M.wid z44 z44=z21) then z38 else bif decide (z5+k/M.wid z44 z44=z22) then z26 else bif decide (z5+k/M.wid z44 z44=z5) then z6 else z6)=bif decide (z5+k/M.wid z44 z44=z57) then z58 else bif decide (z5+k/M.wid z44 z44=z59) then z43 else bif decide (z5+k/M.wid z44 z44=z21) then z38 else bif decide (z5+k/M.wid z44 z44=z22) then z26 else bif decide (z5+k/M.wid z44 z44=z5) then z6 else z6)∧z44+(↑(k%M.wid z44 z44):Int)=z44+(↑(k%M.wid z44 z44):Int)∧z53∧z54)) (if M.Gd.soE z1 z34 (fun k=>bif decide (z5+k=z57) then z58 else bif decide (z5+k=z59) then z43 else bif decide (z5+k=z21) then z38 else bif decide (z5+k=z22) then z26 else bif decide (z5+k=z5) then z6 else z6) z44 z44 z6 (10000:Int)=z6 then z34*M.wid z44 z44 else z5) (if M.Gd.ckE z1 z21 M.exS (Int.toNat z43-Int.toNat z38) (fun i=>M.Sc.mk z26 (↑(Int.toNat z38+i):Int) z44 z6 (10000:Int)) z21 (fun i=>M.exP (z5+i)) z26=z6 then M.Gd.leN z1 M.exS (fun i=>M.Sc.mk z26 (↑(Int.toNat z38+i):Int) z44 z6 (10000:Int)) z21 (fun i=>M.exP (z5+i)) z26 (Int.toNat z43-Int.toNat z38) else z5) (if M.Gd.ckE z1 z21 M.exS z50 (fun i=>M.Sc.mk z26 (↑(z5+i):Int) z44 z6 (10000:Int)) z22 (fun i=>M.Pk.mk z43 z6 (6000:Int) (6000:Int) z6 z6) z6=z6 then M.Gd.leN z1 M.exS (fun i=>M.Sc.mk z26 (↑(z5+i):Int) z44 z6 (10000:Int)) z22 (fun i=>M.Pk.mk z43 z6 (6000:Int) (6000:Int) z6 z6) z6 z50 else z5) (if M.Gd.ck1 z1 z21 M.exS z24 z51 z9 z6=z6∧M.Gd.stA z1 M.exS z24 z51 z9 z6=true then M.Gd.prN z1 M.exS z24 z51 z9 z6 z51 else z5) (z46+z22+z22) (M.Gd.leN z1 M.exS z8 z5 M.P0 z6 z34) (M.adM z21 z5 z3) (M.Gd.prR z1 M.exS z24 z51 z9 z6 z51) (fun i=>M.Sc.mk (bif decide (z5+i=z22) then z38 else bif decide (z5+i=z5) then z26 else z6) (cI z0 z22 i) (cI z0 z21 i) (cI z0 z59 i) (cI z0 z57 i)) (M.Gd.leR z1 M.exS (fun i=>M.Sc.mk z26 (↑(Int.toNat z38+i):Int) z44 z6 (10000:Int)) z21 (fun i=>M.exP (z5+i)) z26 (Int.toNat z43-Int.toNat z38)) (M.Gd.leR z1 M.exS (fun i=>M.Sc.mk z26 (↑(z5+i):Int) z44 z6 (10000:Int)) z22 (fun i=>M.Pk.mk z43 z6 (6000:Int) (6000:Int) z6 z6) z6 z50) (M.Gd.leR z1 M.exS z8 z5 M.P0 z6 z34) (∀ (k:Nat),k<z34→z26=z26∧(↑k:Int)=(↑k:Int)∧z44=z44∧z53∧z54) (z46≤z22)) (↑z21:Int) (↑z34:Int) (M.Gd.mk z44 z26 (1000:Int) (1000:Int) (2000:Int) z6 z6 z6) (M.Pk.mk z26 z6 z49 z49 z6 z6) (M.Sc.mk z26 (↑(Int.toNat z58):Int) z44 z6 (10000:Int)) (z5+z22) (Int.toNat z26-z5) (z21+z22) (z5+z5) (fun k=>(if z21=z22 then fun x=>[SV.int IntKind.i64 (2:Int),SV.int IntKind.i64 (4:Int),SV.int IntKind.i64 (1:Int),SV.int IntKind.i64 (0:Int),SV.int IntKind.i64 (100000:Int)] else fun k=>[SV.int IntKind.i64 (bif decide (k=(1:Nat)) then (2:Int) else bif decide (k=(0:Nat)) then (1:Int) else (0:Int)),SV.int IntKind.i64 (bif decide (k=(1:Nat)) then (4:Int) else bif decide (k=(0:Nat)) then (0:Int) else (0:Int)),SV.int IntKind.i64 (bif decide (k=(1:Nat)) then (1:Int) else bif decide (k=(0:Nat)) then (5:Int) else (0:Int)),SV.int IntKind.i64 (bif decide (k=(1:Nat)) then (0:Int) else bif decide (k=(0:Nat)) then (0:Int) else (0:Int)),SV.int IntKind.i64 (bif decide (k=(1:Nat)) then (100000:Int) else bif decide (k=(0:Nat)) then (100:Int) else (0:Int))]) (z5+k)) (fun k=>(if z34=z22 then fun x=>[SV.int IntKind.i64 (1:Int),SV.int IntKind.i64 (4:Int),SV.int IntKind.i64 (5:Int),SV.int IntKind.i64 (2900:Int),SV.int IntKind.i64 (6500:Int)] else fun k=>[SV.int IntKind.i64 (bif decide (k=(4:Nat)) then (1:Int) else bif decide (k=(3:Nat)) then (1:Int) else bif decide (k=(2:Nat)) then (1:Int) else bif decide (k=(1:Nat)) then (1:Int) else bif decide (k=(0:Nat)) then (1:Int) else (0:Int)),SV.int IntKind.i64 (bif decide (k=(4:Nat)) then (4:Int) else bif decide (k=(3:Nat)) then (3:Int) else bif decide (k=(2:Nat)) then (2:Int) else bif decide (k=(1:Nat)) then (1:Int) else bif decide (k=(0:Nat)) then (0:Int) else (0:Int)),SV.int IntKind.i64 (bif decide (k=(4:Nat)) then (5:Int) else bif decide (k=(3:Nat)) then (5:Int) else bif decide (k=(2:Nat)) then (5:Int) else bif decide (k=(1:Nat)) then (5:Int) else bif decide (k=(0:Nat)) then (5:Int) else (0:Int)),SV.int IntKind.i64 (bif decide (k=(4:Nat)) then (2900:Int) else bif decide (k=(3:Nat)) then (3876:Int) else bif decide (k=(2:Nat)) then (4837:Int) else bif decide (k=(1:Nat)) then (5763:Int) else bif decide (k=(0:Nat)) then (6585:Int) else (0:Int)),SV.int IntKind.i64 (bif decide (k=(4:Nat)) then (6500:Int) else bif decide (k=(3:Nat)) then (7000:Int) else bif decide (k=(2:Nat)) then (7500:Int) else bif decide (k=(1:Nat)) then (8000:Int) else bif decide (k=(0:Nat)) then (8000:Int) else (0:Int))]) (z5+k)) (fun k=>(if z21=z22 then fun x=>[SV.int IntKind.i64 (3:Int),SV.int IntKind.i64 (0:Int),SV.int IntKind.i64 (20000:Int),SV.int IntKind.i64 (20000:Int),SV.int IntKind.i64 (0:Int),SV.int IntKind.i64 (0:Int)] else fun k=>[SV.int IntKind.i64 (bif decide (k=(1:Nat)) then (3:Int) else bif decide (k=(0:Nat)) then (1:Int) else (0:Int)),SV.int IntKind.i64 (bif decide (k=(1:Nat)) then (0:Int) else bif decide (k=(0:Nat)) then (0:Int) else (0:Int)),SV.int IntKind.i64 (bif decide (k=(1:Nat)) then (20000:Int) else bif decide (k=(0:Nat)) then (8000:Int) else (0:Int)),SV.int IntKind.i64 (bif decide (k=(1:Nat)) then (20000:Int) else bif decide (k=(0:Nat)) then (8000:Int) else (0:Int)),SV.int IntKind.i64 (bif decide (k=(1:Nat)) then (0:Int) else bif decide (k=(0:Nat)) then (0:Int) else (0:Int)),SV.int IntKind.i64 (bif decide (k=(1:Nat)) then (0:Int) else bif decide (k=(0:Nat)) then (0:Int) else (0:Int))]) (z5+k)) (fun k=>(if z21=z22 then fun x=>[SV.int IntKind.i64 (2:Int),SV.int IntKind.i64 (4:Int),SV.int IntKind.i64 (1:Int),SV.int IntKind.i64 (1500:Int),SV.int IntKind.i64 (6200:Int)] else fun k=>[SV.int IntKind.i64 (bif decide (k=(1:Nat)) then (2:Int) else bif decide (k=(0:Nat)) then (1:Int) else (0:Int)),SV.int IntKind.i64 (bif decide (k=(1:Nat)) then (4:Int) else bif decide (k=(0:Nat)) then (0:Int) else (0:Int)),SV.int IntKind.i64 (bif decide (k=(1:Nat)) then (1:Int) else bif decide (k=(0:Nat)) then (5:Int) else (0:Int)),SV.int IntKind.i64 (bif decide (k=(1:Nat)) then (1500:Int) else bif decide (k=(0:Nat)) then (0:Int) else (0:Int)),SV.int IntKind.i64 (bif decide (k=(1:Nat)) then (6200:Int) else bif decide (k=(0:Nat)) then (100:Int) else (0:Int))]) (z5+k)) (fun i=>M.Pk.mk (bif decide (z5+i<z21) then (M.exP (z5+i)).k else z38) (bif decide (z5+i<z21) then (M.exP (z5+i)).s else z6) (bif decide (z5+i<z21) then (M.exP (z5+i)).t0 else z6) (bif decide (z5+i<z21) then (M.exP (z5+i)).t1 else z6) (bif decide (z5+i<z21) then (M.exP (z5+i)).l0 else (470:Int)) (bif decide (z5+i<z21) then (M.exP (z5+i)).l1 else (480:Int))) (fun i=>M.Pk.mk z6 z6 z6 z6 z6 z6) (fun i=>M.Sc.mk z26 (↑i:Int) z44 z6 (10000:Int)) (fun i=>M.Sc.mk z26 (bif decide (z5+i/M.wid z44 z44=z57) then z58 else bif decide (z5+i/M.wid z44 z44=z59) then z43 else bif decide (z5+i/M.wid z44 z44=z21) then z38 else bif decide (z5+i/M.wid z44 z44=z22) then z26 else bif decide (z5+i/M.wid z44 z44=z5) then z6 else z6) (z44+(↑(i%M.wid z44 z44):Int)) z6 (10000:Int)) (∀ (k:Nat),k<z21→(M.exP (z5+k)).k=(M.exP (z5+k)).k∧(M.exP (z5+k)).s=(M.exP (z5+k)).s∧(M.exP (z5+k)).t0=(M.exP (z5+k)).t0∧(M.exP (z5+k)).t1=(M.exP (z5+k)).t1∧(M.exP (z5+k)).l0=(M.exP (z5+k)).l0∧(M.exP (z5+k)).l1=(M.exP (z5+k)).l1) (∀ (k:Nat),k<z21→M.exS k=M.exS k) (z21≤z32) (z5+z21≤z21) (z6=z6) (z5+Int.toNat z6<z21) (z34≤(9223372036854775807:Nat))) (0:Int) (1:Int) (2:Int) (3:Int) (5:Int) (8000:Int) (4:Int) (0:Nat) (2:Nat) (1:Nat) (100000:Nat) (5:Nat) (4:Nat) (3:Nat) ((10000:Int)=(10000:Int))
theorem r15  : V true eqs [(1000001,clsE),(53,pureE e53),(54,pureE e54),(55,specE e55n),(56,pureE e56),(57,pureE e57),(58,pureE e58),(24,pureE e24),(26,pureE e26),(38,pureE e38),(18,pureE e18),(21,pureE e21),(30,pureE e30),(32,pureE e32),(35,pureE e35),(42,pureE e42),(45,specE e45c),(48,alt1 (pureE e48z) (alt1 (specE e48e) (specE e48))),(51,alt1 (pureE e51z) (specE e51)),(50,pureE e50z),(47,pureE e47z),(17,pureE e17)] Try.f15 [0,1,2,3,4,5,6,7,8,9,10,11,12,13,14,15,16,17,18,19,20,21,22,23,24,25,26,27,29,84,144,218,276,289] [] [] (.bool true)=Rr15  := by kernel_rfl
theorem br15   : Rr15  := by
 unfold Rr15
 dsimp -iota -proj -eta -zeta only
 set_option synthInstance.maxSize 100000 in
 set_option synthInstance.maxHeartbeats 0 in
 set_option maxRecDepth 100000 in
 decide +kernel
theorem s15:PureOK PP 15 e15:=by
 intro xs ps res h hp
 unfold e15 at h
 split at h
 ·skip
  cases h
  clear hp
  exact enterH (Hold.of (r15 ) (br15  )) (eqsok) (.cons clsE_ok (.cons (pureE_ok s53) (.cons (pureE_ok s54) (.cons (specE_ok s55n) (.cons (pureE_ok s56) (.cons (pureE_ok s57) (.cons (pureE_ok s58) (.cons (pureE_ok s24) (.cons (pureE_ok s26) (.cons (pureE_ok s38) (.cons (pureE_ok s18) (.cons (pureE_ok s21) (.cons (pureE_ok s30) (.cons (pureE_ok s32) (.cons (pureE_ok s35) (.cons (pureE_ok s42) (.cons (specE_ok s45c) (.cons (alt1_ok (pureE_ok s48z) (alt1_ok (specE_ok s48e) (specE_ok s48))) (.cons (alt1_ok (pureE_ok s51z) (specE_ok s51)) (.cons (pureE_ok s50z) (.cons (pureE_ok s47z) (.cons (pureE_ok s17) (.nil))))))))))))))))))))))) (k:=15) (by kernel_rfl) (by kernel_rfl) (fun _=>.nil)
 ·cases h
end Go.Proofs.Ytoncoofmijjgeaa.Sep
