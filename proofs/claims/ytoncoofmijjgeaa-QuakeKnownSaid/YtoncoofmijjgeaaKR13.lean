/-
  Texts of one seat, joined. No condition. (This text proves no statement by itself.)
-/
import Derived.Test.YtoncoofmijjgeaaKR10
import Derived.Test.YtoncoofmijjgeaaKN1
namespace Go.Proofs.Ytoncoofmijjgeaa.Sep
open Go
set_option linter.unusedVariables false
set_option linter.unusedSimpArgs false
def Rr5 (w ht s v0 v1 d0 d1 r:Int) (c a b:Int):Prop:=(fun (z2:M.Gd)=>(fun (z0:Bool) (z4:Prop)=>(fun (z1:Bool) (z3 z6:Prop)=>(fun (z5:Bool) (z7:Prop)=>(z4→z4)∧(z4→z4)∧(z4→z4)∧z6∧z6∧z6∧(z3→z3)∧(z3→z3)∧(z3→z3)∧z7∧z7∧z7∧(z5=true→z5=true)∧(bif z5 then true else false)=true) (bif z1 then decide (M.Gd.stE z2 c a b=M.Gd.stE z2 c a b) else false) (z1=true→z1=true)) (bif bif z0 then decide (M.Gd.kn2 z2 a b=M.Gd.kn2 z2 a b) else false then decide ((if M.Gd.stE z2 c a b=(0:Int) then M.Gd.S0 z2 c a b else (0:Int))=if M.Gd.stE z2 c a b=(0:Int) then M.Gd.S0 z2 c a b else (0:Int)) && (decide ((if M.Gd.stE z2 c a b=(0:Int) then M.Gd.S1 z2 c a b else (0:Int))=if M.Gd.stE z2 c a b=(0:Int) then M.Gd.S1 z2 c a b else (0:Int)) && true) else false) ((bif z0 then decide (M.Gd.kn2 z2 a b=M.Gd.kn2 z2 a b) else false)=true) (z0=true→z0=true)) (bif decide (M.Gd.er z2=M.Gd.er z2) then decide ((if M.Gd.kn2 z2 a b=(0:Int) then M.Gd.T0 z2 a b else (0:Int))=if M.Gd.kn2 z2 a b=(0:Int) then M.Gd.T0 z2 a b else (0:Int)) && (decide ((if M.Gd.kn2 z2 a b=(0:Int) then M.Gd.T1 z2 a b else (0:Int))=if M.Gd.kn2 z2 a b=(0:Int) then M.Gd.T1 z2 a b else (0:Int)) && true) else false) (decide (M.Gd.er z2=M.Gd.er z2)=true)) (M.Gd.mk w ht s v0 v1 d0 d1 r)
theorem r5 (w ht s v0 v1 d0 d1 r:Int) (c a b:Int):V true eqs [(24,pureE e24),(25,pureE e25),(26,pureE e26),(27,pureE e27),(28,pureE e28),(29,pureE e29),(17,pureE e17)] Try.f5 [0,1,2,3,4,8,9,10,11,12,13,14,15,16,17] [] [.agg [SI w,SI ht,SI s,SI v0,SI v1,SI d0,SI d1,SI r],SI c,SI a,SI b] (.bool true)=Rr5 w ht s v0 v1 d0 d1 r c a b:=by kernel_rfl
def e20:List SV→Option (List Prop × SV)
 | [.sl 6 m g_1]=>some ([Row 6 m g_1,m≤1000],.sl 6 m (fun j=>[SI ((cI g_1 0) j),SI ((cI g_1 1) j),SI ((cI g_1 2) j),SI ((cI g_1 3) j),SI ((cI g_1 4) j),SI ((cI g_1 5) j)]))
 | _=>none
def e3:List SV→Option (List Prop × SV)
 | [.agg [.int .i64 w,.int .i64 ht,.int .i64 s,.int .i64 v0,.int .i64 v1,.int .i64 d0,.int .i64 d1,.int .i64 r],.sl 1 ns g_1,.sl 5 n g_2,.sl 6 m g_3,.int .i64 f]=>some ([Row 1 ns g_1,Row 5 n g_2,Row 6 m g_3],.bool true)
 | _=>none
def Rr3 (w ht s v0 v1 d0 d1 r:Int) (ns:Nat) (x:Nat→Int) (n:Nat) (sk sc sq sa sb:Nat→Int) (m:Nat) (pk ps pa pb pc pd:Nat→Int) (f:Int):Prop:=(fun (z7:Bool) (z2:Int) (z8:Nat) (z1:Nat→M.Sc) (z4 z5 z10:Prop)=>(fun (z3:Nat)=>(fun (z0:Bool) (z6:Prop)=>(fun (z9:Bool) (z11:Prop)=>z10∧z5∧z4∧(z7=true→true=true)∧(z7=false→z10∧z5∧z4∧ns≤z8∧n≤z8∧m≤z8∧z4∧m≤(1000:Nat)∧z10∧z5∧z4∧ns≤z8∧n≤z8∧m≤z8∧z6∧z6∧z3≤z8∧z3≤z8∧z11∧z11∧z11∧(z9=true→z9=true)∧(bif z9 then true else false)=true)) (bif z0 then decide (z2=z2) else false) (z0=true→z0=true)) (M.same z3 z3 z1 z1) (∀ (k:Nat),(k<z3)→(z1 k).k=(z1 k).k∧(z1 k).c=(z1 k).c∧(z1 k).q=(z1 k).q∧(z1 k).a=(z1 k).a∧(z1 k).b=(z1 k).b)) (if z2=(0:Int) then M.Gd.leN (M.Gd.mk w ht s v0 v1 d0 d1 r) x (fun i=>M.Sc.mk (sk i) (sc i) (sq i) (sa i) (sb i)) m (fun i=>M.Pk.mk (pk i) (ps i) (pa i) (pb i) (pc i) (pd i)) f n else (0:Nat))) (!decide (ns≤(70:Nat)∧n≤(300:Nat)∧m≤(70:Nat)∧n*m≤(3000:Nat))) (M.Gd.ckE (M.Gd.mk w ht s v0 v1 d0 d1 r) ns x n (fun i=>M.Sc.mk (sk i) (sc i) (sq i) (sa i) (sb i)) m (fun i=>M.Pk.mk (pk i) (ps i) (pa i) (pb i) (pc i) (pd i)) f) (100000:Nat) (M.Gd.leR (M.Gd.mk w ht s v0 v1 d0 d1 r) x (fun i=>M.Sc.mk (sk i) (sc i) (sq i) (sa i) (sb i)) m (fun i=>M.Pk.mk (pk i) (ps i) (pa i) (pb i) (pc i) (pd i)) f n) (∀ (k:Nat),k<m→pk k=pk k∧ps k=ps k∧pa k=pa k∧pb k=pb k∧pc k=pc k∧pd k=pd k) (∀ (k:Nat),k<n→sk k=sk k∧sc k=sc k∧sq k=sq k∧sa k=sa k∧sb k=sb k) (∀ (k:Nat),k<ns→x k=x k)
theorem r3 (w ht s v0 v1 d0 d1 r:Int) (ns:Nat) (x:Nat→Int) (n:Nat) (sk sc sq sa sb:Nat→Int) (m:Nat) (pk ps pa pb pc pd:Nat→Int) (f:Int):V true [] [(16,pureE e16),(17,pureE e17),(18,pureE e18),(19,pureE e19),(20,pureE e20),(21,pureE e21)] Try.f3 [0,1,2,3,4,5,10,11,12,13,14,19] [] [.agg [SI w,SI ht,SI s,SI v0,SI v1,SI d0,SI d1,SI r],.sl 1 ns (fun k=>[SI (x k)]),.sl 5 n (fun k=>[SI (sk k),SI (sc k),SI (sq k),SI (sa k),SI (sb k)]),.sl 6 m (fun k=>[SI (pk k),SI (ps k),SI (pa k),SI (pb k),SI (pc k),SI (pd k)]),SI f] (.bool true)=Rr3 w ht s v0 v1 d0 d1 r ns x n sk sc sq sa sb m pk ps pa pb pc pd f:=by kernel_rfl
end Go.Proofs.Ytoncoofmijjgeaa.Sep
namespace Go.Proofs.Ytoncoofmijjgeaa.M
open Go
set_option linter.unusedVariables false
set_option linter.unusedSimpArgs false
namespace Gd
def ceE (g:Gd) (x:Nat→Int) (i:Nat):Int:=if g.cell (x i) then (if 0<i∧x i≤x (i-1) then 2 else 0) else 4
def soE (g:Gd) (n:Nat) (x:Nat→Int) (q0 q1 a b:Int):Int:=if g.ok then
 (if fe (g.ceE x) n 0=0 then (if (1≤q0∧q0≤q1∧q1≤10)∧0≤a∧a≤b∧b≤1000000000 then (if 256<(n:Int)*(q1-q0+1) then 9 else 0) else 3) else fe (g.ceE x) n 0) else 3
end Gd
def wid (q0 q1:Int):Nat:=(q1-q0+1).toNat
def soR (x:Nat→Int) (q0 q1 a b:Int) (j:Nat):Sc:=⟨1,x (j/wid q0 q1),q0+(j%wid q0 q1:Nat),a,b⟩
theorem so_div {q0 q1:Int} {i d:Nat} (h:d<wid q0 q1):(i*wid q0 q1+d)/wid q0 q1=i:=by
 rw [Nat.mul_comm,Nat.mul_add_div (by omega),Nat.div_eq_of_lt h]; omega
theorem so_mod {q0 q1:Int} {i d:Nat} (h:d<wid q0 q1):(i*wid q0 q1+d)%wid q0 q1=d:=by
 rw [Nat.mul_comm,Nat.mul_add_mod,Nat.mod_eq_of_lt h]
end Go.Proofs.Ytoncoofmijjgeaa.M
namespace Go.Proofs.Ytoncoofmijjgeaa.Sep
open Go
set_option linter.unusedVariables false
set_option linter.unusedSimpArgs false
def lp38 (w ht s v0 v1 d0 d1 r:Int) (n:Nat) (x:Nat→Int) (q0 q1 a b:Int):LoopS where
 ι:=Nat
 β:=Int
 pre i:=i≤n∧n≤100000∧M.Gd.ok (M.Gd.mk w ht s v0 v1 d0 d1 r)
 μ i:=n-i
 next i _ _ _:=i+1
 out i:=M.fe (M.Gd.ceE (M.Gd.mk w ht s v0 v1 d0 d1 r) x) (n-i) i
 early q:=decide (q≠0)
 SA i:=[(1,.sl 1 n (fun k=>[SI (x k)])),(4,.ptr 0 0),(6,.ptr 1 0),(7,.ptr 2 0),(22,.sl 1 n (fun k=>[SI (x k)])),(23,SI n),(24,SI i)]
 SH _:=[(0,.cells [SI w,SI ht,SI s,SI v0,SI v1,SI d0,SI d1,SI r]),(1,.cells [SI q0,SI q1]),(2,.cells [SI a,SI b])]
 n0:=3
 NA _:=[(1,.sl 1 n (fun k=>[SI (x k)])),(4,.ptr 0 0),(6,.ptr 1 0),(7,.ptr 2 0)]
 NH _:=[(0,.cells [SI w,SI ht,SI s,SI v0,SI v1,SI d0,SI d1,SI r]),(1,.cells [SI q0,SI q1]),(2,.cells [SI a,SI b])]
 n1:=3
 RA q:=[(8,.lit (.slice none 0 0)),(9,SI q)]
 RH _:=[]
def Rq38 (w ht s v0 v1 d0 d1 r:Int) (n:Nat) (x:Nat→Int) (q0 q1 a b:Int) (i:Nat):Prop:=(fun (z2 z10:Int) (z1:M.Gd) (z9:Nat) (z4 z6 z7:Prop)=>(fun (z12:Bool) (z3 z13:Int) (z0:Prop)=>(fun (z5 z11:Bool) (z8:Prop)=>(decide (z2<z10)=true→(0:Int)≤z2∧z2<z10∧Int.toNat z2<n∧M.Gd.ok z1∧(z12=true→z11=true∧z7∧(4:Int)=z3∧True)∧(z12=false→z8∧(z0→R64 z13)∧z8∧z8∧(z0→(0:Int)≤z13)∧(z0→z13<z10)∧z8∧(z0→Int.toNat z13<n)∧z8∧z8∧z8∧(z5=true→z11=true∧z7∧(2:Int)=z3∧True)∧(z5=false→R64 (z2+(1:Int))∧(z9≤n∧n≤(100000:Nat)∧M.Gd.ok z1)∧n-z9<n-i∧M.fe (M.Gd.ceE z1 x) (n-z9) z9=z3∧z6∧z6∧z10=z10∧z2+(1:Int)=(↑z9:Int)∧z4)))∧(decide (z2<z10)=false→z11=false∧z6∧z4)) (bif decide ((0:Int)<z2) then decide (x (Int.toNat z2)≤x (Int.toNat z13)) else false) (decide (z3≠(0:Int))) (z0→z0)) (!decide (M.Gd.cell z1 (x (Int.toNat z2)))) (M.fe (M.Gd.ceE z1 x) (n-i) i) (z2-(1:Int)) (decide ((0:Int)<z2)=true)) (↑i:Int) (↑n:Int) (M.Gd.mk w ht s v0 v1 d0 d1 r) (i+(1:Nat)) (w=w∧ht=ht∧s=s∧v0=v0∧v1=v1∧d0=d0∧d1=d1∧r=r∧q0=q0∧q1=q1∧a=a∧b=b∧True) (n=n∧∀ (k:Nat),k<n→x k=x k) (Value.slice none (0:Nat) (0:Nat)=Value.slice none (0:Nat) (0:Nat))
theorem q38 (w ht s v0 v1 d0 d1 r:Int) (n:Nat) (x:Nat→Int) (q0 q1 a b:Int) (i:Nat):VL true [] [(83,pureE e83)] YS.none Try.f38 0 [0,1,2,3,4,6,7,8,9,10,11,12,13,15,16,20,22,23,24,25,29,34,47,56,67,68,69,70,78] [] 0 (lp38 w ht s v0 v1 d0 d1 r n x q0 q1 a b) (i)=Rq38 w ht s v0 v1 d0 d1 r n x q0 q1 a b i:=by kernel_rfl
theorem peq38 (w ht s v0 v1 d0 d1 r:Int) (n:Nat) (x:Nat→Int) (q0 q1 a b:Int) (i:Nat):(lp38 w ht s v0 v1 d0 d1 r n x q0 q1 a b).pre (i)=(i≤n∧n≤(100000:Nat)∧M.Gd.ok (M.Gd.mk w ht s v0 v1 d0 d1 r)):=by kernel_rfl
theorem bq38 (w ht s v0 v1 d0 d1 r:Int) (n:Nat) (x:Nat→Int) (q0 q1 a b:Int) (i:Nat) (hp:i≤n∧n≤(100000:Nat)∧M.Gd.ok (M.Gd.mk w ht s v0 v1 d0 d1 r)):Rq38 w ht s v0 v1 d0 d1 r n x q0 q1 a b i:=by
 unfold Rq38
 dsimp -iota -proj -eta -zeta only
 obtain ⟨h1,h2,h3⟩:=id hp
 have r1:R64 ((i:Int)+1):=by unfold R64; omega
 have r2:R64 ((i:Int)-1):=by unfold R64; omega
 have t1:((i:Int)-1).toNat=i-1:=by omega
 have f1:=@M.fe_step (M.Gd.ceE (M.Gd.mk w ht s v0 v1 d0 d1 r) x) n i
 have f2:=@M.fe_stop (M.Gd.ceE (M.Gd.mk w ht s v0 v1 d0 d1 r) x) n i
 have f3:=@M.fe_end (M.Gd.ceE (M.Gd.mk w ht s v0 v1 d0 d1 r) x) n i
 simp only [Int.toNat_natCast,r1,r2,t1]
 generalize M.fe (M.Gd.ceE (M.Gd.mk w ht s v0 v1 d0 d1 r) x) (n-i) i=F at *
 generalize M.fe (M.Gd.ceE (M.Gd.mk w ht s v0 v1 d0 d1 r) x) (n-(i+1)) (i+1)=F' at *
 unfold M.Gd.ceE at f1 f2
 by_cases hl:i<n
 ·have f1:=f1 hl
  have f2:=f2 hl
  clear f3
  have t2:i-1<n:=by omega
  by_cases c1:M.Gd.cell (M.Gd.mk w ht s v0 v1 d0 d1 r) (x i)
  ·by_cases c2:0<i
   ·have c2':(0:Int)<i:=by omega
    by_cases c3:x i≤x (i-1)
    ·simp [c1,c2,c3] at f2
     simp [hl,h3,c1,c2,c2',c3,f2,t2]
     try omega
    ·simp [c1,c2,c3] at f1
     subst f1
     simp [hl,h3,c1,c2,c2',c3,t2]
     try omega
   ·have c2':¬ (0:Int)<i:=by omega
    simp [c1,c2] at f1
    subst f1
    simp [hl,h3,c1,c2,c2',t2]
    try omega
  ·simp [c1] at f2
   simp [hl,h3,c1,f2]
   try omega
 ·have f3:=f3 (by omega)
  subst f3
  simp [hl]
theorem t38 (w ht s v0 v1 d0 d1 r:Int) (n:Nat) (x:Nat→Int) (q0 q1 a b:Int) {F:Fence} (hF:FOK F) (Y:YEnv PP YS.none):∀ Q A H nx,loopT false Try.f38.ntmps 0 (lp38 w ht s v0 v1 d0 d1 r n x q0 q1 a b) (fun _ _ _=>(0:Nat)) Q A H nx→WPS Y F Try.f38.ntmps 0 (.block 0 (blkAt 0 Try.f38)) Q A H nx :=
 loopW (E:=[]) (.nil) (O:=[(83,pureE e83)]) (.cons (pureE_ok s83) (.nil)) (ck:=true) (L:=[0,1,2,3,4,6,7,8,9,10,11,12,13,15,16,20,22,23,24,25,29,34,47,56,67,68,69,70,78]) (f:=Try.f38) (m:=0) (id:=0) (l:=(lp38 w ht s v0 v1 d0 d1 r n x q0 q1 a b)) (LI:=fun i=>[]) Y hF (by kernel_rfl) (fun _=>.nil) (by
  rintro i hp
  exact Hold.of (q38 w ht s v0 v1 d0 d1 r n x q0 q1 a b i) (bq38 w ht s v0 v1 d0 d1 r n x q0 q1 a b i ((peq38 w ht s v0 v1 d0 d1 r n x q0 q1 a b i).mp hp)))
def lp38b (w ht s v0 v1 d0 d1 r:Int) (n:Nat) (x:Nat→Int) (q0 q1 a b:Int) (i:Nat):LoopS where
 ι:=Nat
 β:=Unit
 pre d:=d≤(M.wid q0 q1)∧i<n∧n≤256∧(1≤q0∧q0≤q1∧q1≤10)
 μ d:=(M.wid q0 q1)-d
 next d _ _ _:=d+1
 out _:=()
 early _:=false
 SA d:=[(1,.sl 1 n (fun k=>[SI (x k)])),(6,.ptr 1 0),(7,.ptr 2 0),(13,.vec 3 5 0 (i*(M.wid q0 q1)+d)),(15,SI (x i)),(16,SI (q0+(d:Int))),(67,.sl 1 n (fun k=>[SI (x k)])),(68,SI n),(69,SI i)]
 SH d:=[(1,.cells [SI q0,SI q1]),(2,.cells [SI a,SI b]),(3,.row 5 (i*(M.wid q0 q1)+d) (fun k=>[SI (M.soR x q0 q1 a b k).k,SI (M.soR x q0 q1 a b k).c,SI (M.soR x q0 q1 a b k).q,SI (M.soR x q0 q1 a b k).a,SI (M.soR x q0 q1 a b k).b]))]
 n0:=4
 NA _:=[(1,.sl 1 n (fun k=>[SI (x k)])),(6,.ptr 1 0),(7,.ptr 2 0),(13,.vec 3 5 0 ((i+1)*(M.wid q0 q1))),(67,.sl 1 n (fun k=>[SI (x k)])),(68,SI n),(69,SI i)]
 NH _:=[(1,.cells [SI q0,SI q1]),(2,.cells [SI a,SI b]),(3,.row 5 ((i+1)*(M.wid q0 q1)) (fun k=>[SI (M.soR x q0 q1 a b k).k,SI (M.soR x q0 q1 a b k).c,SI (M.soR x q0 q1 a b k).q,SI (M.soR x q0 q1 a b k).a,SI (M.soR x q0 q1 a b k).b]))]
 n1:=4
 RA _:=[]
 RH _:=[]
def Rq38b (w ht s v0 v1 d0 d1 r:Int) (n:Nat) (x:Nat→Int) (q0 q1 a b:Int) (i:Nat) (d:Nat):Prop:=(fun (z4 z5 z7 z8:Int) (z0 z2:Nat) (z1:Prop)=>(fun (z3 z6:Nat)=>(decide (z4≤q1)=true→(0:Nat)+z2≤z2∧(∀ (k:Nat),k<z2→true=true)∧z3≤z3∧(z3+z2)*(40:Nat)≤(140737488355328:Nat)∧R64 (z4+z5)∧(z6≤z0∧i<n∧n≤(256:Nat)∧z5≤q0∧q0≤q1∧q1≤(10:Int))∧z0-z6<z0-d∧()=()∧z1∧(0:Nat)=(0:Nat)∧z3+z2=i*z0+z6∧x i=x i∧z4+z5=q0+(↑z6:Int)∧z1∧z7=z7∧z8=z8∧q0=q0∧q1=q1∧a=a∧b=b∧i*z0+z6≤z3+z2∧(∀ (k:Nat),k<i*z0+z6→(bif decide (k<z3) then z5 else z5)=z5∧(bif decide (k<z3) then x (k/z0) else x i)=x (k/z0)∧(bif decide (k<z3) then q0+(↑(k%z0):Int) else z4)=q0+(↑(k%z0):Int)∧(bif decide (k<z3) then a else a)=a∧(bif decide (k<z3) then b else b)=b)∧True)∧(decide (z4≤q1)=false→false=false∧z1∧(0:Nat)=(0:Nat)∧z3=(i+z2)*z0∧z1∧z7=z7∧z8=z8∧q0=q0∧q1=q1∧a=a∧b=b∧(i+z2)*z0≤z3∧(∀ (k:Nat),k<(i+z2)*z0→z5=z5∧x (k/z0)=x (k/z0)∧q0+(↑(k%z0):Int)=q0+(↑(k%z0):Int)∧a=a∧b=b)∧True)) (i*z0+d) (d+z2)) (q0+(↑d:Int)) (1:Int) (↑n:Int) (↑i:Int) (M.wid q0 q1) (1:Nat) (n=n∧∀ (k:Nat),k<n→x k=x k)
theorem q38b (w ht s v0 v1 d0 d1 r:Int) (n:Nat) (x:Nat→Int) (q0 q1 a b:Int) (i:Nat) (d:Nat):VL true [] [] YS.none Try.f38 0 [0,1,2,3,4,6,7,8,9,10,11,12,13,15,16,20,22,23,24,25,29,34,47,56,67,68,69,70,78] [] 6 (lp38b w ht s v0 v1 d0 d1 r n x q0 q1 a b i) (d)=Rq38b w ht s v0 v1 d0 d1 r n x q0 q1 a b i d:=by kernel_rfl
theorem peq38b (w ht s v0 v1 d0 d1 r:Int) (n:Nat) (x:Nat→Int) (q0 q1 a b:Int) (i:Nat) (d:Nat):(lp38b w ht s v0 v1 d0 d1 r n x q0 q1 a b i).pre (d)=(d≤M.wid q0 q1∧i<n∧n≤(256:Nat)∧(1:Int)≤q0∧q0≤q1∧q1≤(10:Int)):=by kernel_rfl
theorem bq38b (w ht s v0 v1 d0 d1 r:Int) (n:Nat) (x:Nat→Int) (q0 q1 a b:Int) (i:Nat) (d:Nat) (hp:d≤M.wid q0 q1∧i<n∧n≤(256:Nat)∧(1:Int)≤q0∧q0≤q1∧q1≤(10:Int)):Rq38b w ht s v0 v1 d0 d1 r n x q0 q1 a b i d:=by
 unfold Rq38b
 dsimp -iota -proj -eta -zeta only
 obtain ⟨h1,h2,h3,hq⟩:=id hp
 have ew:((M.wid q0 q1):Int)=q1-q0+1:=by unfold M.wid; omega
 have hw:(M.wid q0 q1)≤10:=by omega
 have hb:i*(M.wid q0 q1)≤256*10:=Nat.mul_le_mul (by omega) hw
 have es:(i+1)*(M.wid q0 q1)=i*(M.wid q0 q1)+(M.wid q0 q1):=Nat.succ_mul _ _
 have e3:∀ k,d<(M.wid q0 q1)→k<i*(M.wid q0 q1)+d+1→(bif decide (k<i*(M.wid q0 q1)+d) then x (k/(M.wid q0 q1)) else x i)=x (k/(M.wid q0 q1))∧(bif decide (k<i*(M.wid q0 q1)+d) then q0+((k%(M.wid q0 q1):Nat):Int) else q0+(d:Int))=q0+((k%(M.wid q0 q1):Nat):Int):=fun k hd hk=>by
  by_cases d1:k<i*(M.wid q0 q1)+d
  ·simp [d1]
  ·have:k=i*(M.wid q0 q1)+d:=by omega
   subst this
   rw [M.so_div hd,M.so_mod hd]
   simp
 have r1:R64 (q0+(d:Int)+1):=by unfold R64; omega
 simp only [es]
 by_cases hl:d<(M.wid q0 q1)
 ·have hl':q0+(d:Int)≤q1:=by omega
  generalize (M.wid q0 q1)=Z at *
  generalize i*Z=Y at *
  simp [hl',r1]
  repeat' apply And.intro
  all_goals first | omega | exact fun k hk=>by simpa using e3 k hl (by omega) | skip
 ·have e:d=(M.wid q0 q1):=by omega
  have hl':¬ q0+(d:Int)≤q1:=by omega
  simp [hl',e]
  omega
theorem t38b (w ht s v0 v1 d0 d1 r:Int) (n:Nat) (x:Nat→Int) (q0 q1 a b:Int) (i:Nat) {F:Fence} (hF:FOK F) (Y:YEnv PP YS.none):∀ Q A H nx,loopT false Try.f38.ntmps 0 (lp38b w ht s v0 v1 d0 d1 r n x q0 q1 a b i) (fun _ _ _=>(0:Nat)) Q A H nx→WPS Y F Try.f38.ntmps 0 (.block 6 (blkAt 6 Try.f38)) Q A H nx :=
 loopW (E:=[]) (.nil) (O:=[]) (.nil) (ck:=true) (L:=[0,1,2,3,4,6,7,8,9,10,11,12,13,15,16,20,22,23,24,25,29,34,47,56,67,68,69,70,78]) (f:=Try.f38) (m:=0) (id:=6) (l:=(lp38b w ht s v0 v1 d0 d1 r n x q0 q1 a b i)) (LI:=fun i=>[]) Y hF (by kernel_rfl) (fun _=>.nil) (by
  rintro d hp
  exact Hold.of (q38b w ht s v0 v1 d0 d1 r n x q0 q1 a b i d) (bq38b w ht s v0 v1 d0 d1 r n x q0 q1 a b i d ((peq38b w ht s v0 v1 d0 d1 r n x q0 q1 a b i d).mp hp)))
def lp38a (w ht s v0 v1 d0 d1 r:Int) (n:Nat) (x:Nat→Int) (q0 q1 a b:Int):LoopS where
 ι:=Nat
 β:=Unit
 pre i:=i≤n∧n≤256∧(1≤q0∧q0≤q1∧q1≤10)
 μ i:=n-i
 next i _ _ _:=i+1
 out _:=()
 early _:=false
 SA i:=[(1,.sl 1 n (fun k=>[SI (x k)])),(6,.ptr 1 0),(7,.ptr 2 0),(13,.vec 3 5 0 (i*(M.wid q0 q1))),(67,.sl 1 n (fun k=>[SI (x k)])),(68,SI n),(69,SI i)]
 SH i:=[(1,.cells [SI q0,SI q1]),(2,.cells [SI a,SI b]),(3,.row 5 (i*(M.wid q0 q1)) (fun k=>[SI (M.soR x q0 q1 a b k).k,SI (M.soR x q0 q1 a b k).c,SI (M.soR x q0 q1 a b k).q,SI (M.soR x q0 q1 a b k).a,SI (M.soR x q0 q1 a b k).b]))]
 n0:=4
 NA _:=[(13,.vec 0 5 0 (n*(M.wid q0 q1)))]
 NH _:=[(0,.row 5 (n*(M.wid q0 q1)) (fun k=>[SI (M.soR x q0 q1 a b k).k,SI (M.soR x q0 q1 a b k).c,SI (M.soR x q0 q1 a b k).q,SI (M.soR x q0 q1 a b k).a,SI (M.soR x q0 q1 a b k).b]))]
 n1:=1
 RA _:=[]
 RH _:=[]
def Rq38a (w ht s v0 v1 d0 d1 r:Int) (n:Nat) (x:Nat→Int) (q0 q1 a b:Int) (i:Nat):Prop:=(fun (z3 z6 z7:Int) (z0 z2 z5:Nat) (z1:Prop)=>(fun (z4:Prop)=>(decide (z3<z6)=true→(0:Int)≤z3∧z3<z6∧Int.toNat z3<n∧(z5≤z0∧i<n∧z4)∧(z1∧z5=z5∧i*z0=i*z0+z5∧x (Int.toNat z3)=x i∧q0=q0+(↑z5:Int)∧z1∧z6=z6∧z3=z3∧q0=q0∧q1=q1∧a=a∧b=b∧i*z0+z5≤i*z0∧(∀ (k:Nat),k<i*z0+z5→z7=z7∧x (k/z0)=x (k/z0)∧q0+(↑(k%z0):Int)=q0+(↑(k%z0):Int)∧a=a∧b=b)∧True)∧(false=false→R64 (z3+z7)∧(z2≤n∧z4)∧n-z2<n-i∧()=()∧z1∧z5=z5∧z2*z0=z2*z0∧z1∧z6=z6∧z3+z7=(↑z2:Int)∧q0=q0∧q1=q1∧a=a∧b=b∧z2*z0≤z2*z0∧(∀ (k:Nat),k<z2*z0→z7=z7∧x (k/z0)=x (k/z0)∧q0+(↑(k%z0):Int)=q0+(↑(k%z0):Int)∧a=a∧b=b)∧True)∧(false=true→false=true∧True))∧(decide (z3<z6)=false→false=false∧z5=z5∧i*z0=n*z0∧n*z0≤i*z0∧(∀ (k:Nat),k<n*z0→z7=z7∧x (k/z0)=x (k/z0)∧q0+(↑(k%z0):Int)=q0+(↑(k%z0):Int)∧a=a∧b=b)∧True)) (n≤(256:Nat)∧z7≤q0∧q0≤q1∧q1≤(10:Int))) (↑i:Int) (↑n:Int) (1:Int) (M.wid q0 q1) (i+(1:Nat)) (0:Nat) (n=n∧∀ (k:Nat),k<n→x k=x k)
theorem q38a (w ht s v0 v1 d0 d1 r:Int) (n:Nat) (x:Nat→Int) (q0 q1 a b:Int) (i:Nat):VL true [] [] YS.none Try.f38 0 [0,1,2,3,4,6,7,8,9,10,11,12,13,15,16,20,22,23,24,25,29,34,47,56,67,68,69,70,78] [(6,loopT false Try.f38.ntmps 0 (lp38b w ht s v0 v1 d0 d1 r n x q0 q1 a b i) (fun _ _ _=>(0:Nat)))] 4 (lp38a w ht s v0 v1 d0 d1 r n x q0 q1 a b) (i)=Rq38a w ht s v0 v1 d0 d1 r n x q0 q1 a b i:=by kernel_rfl
theorem peq38a (w ht s v0 v1 d0 d1 r:Int) (n:Nat) (x:Nat→Int) (q0 q1 a b:Int) (i:Nat):(lp38a w ht s v0 v1 d0 d1 r n x q0 q1 a b).pre (i)=(i≤n∧n≤(256:Nat)∧(1:Int)≤q0∧q0≤q1∧q1≤(10:Int)):=by kernel_rfl
theorem bq38a (w ht s v0 v1 d0 d1 r:Int) (n:Nat) (x:Nat→Int) (q0 q1 a b:Int) (i:Nat) (hp:i≤n∧n≤(256:Nat)∧(1:Int)≤q0∧q0≤q1∧q1≤(10:Int)):Rq38a w ht s v0 v1 d0 d1 r n x q0 q1 a b i:=by
 unfold Rq38a
 dsimp -iota -proj -eta -zeta only
 obtain ⟨h1,h2,hq⟩:=id hp
 have r1:R64 ((i:Int)+1):=by unfold R64; omega
 simp only [Int.toNat_natCast,r1]
 by_cases hl:i<n
 ·have hl':(i:Int)<n:=by omega
  simp [hl,hl',h2,hq]
  try omega
 ·have e:i=n:=by omega
  subst e
  simp
theorem t38a (w ht s v0 v1 d0 d1 r:Int) (n:Nat) (x:Nat→Int) (q0 q1 a b:Int) {F:Fence} (hF:FOK F) (Y:YEnv PP YS.none):∀ Q A H nx,loopT false Try.f38.ntmps 0 (lp38a w ht s v0 v1 d0 d1 r n x q0 q1 a b) (fun _ _ _=>(0:Nat)) Q A H nx→WPS Y F Try.f38.ntmps 0 (.block 4 (blkAt 4 Try.f38)) Q A H nx :=
 loopW (E:=[]) (.nil) (O:=[]) (.nil) (ck:=true) (L:=[0,1,2,3,4,6,7,8,9,10,11,12,13,15,16,20,22,23,24,25,29,34,47,56,67,68,69,70,78]) (f:=Try.f38) (m:=0) (id:=4) (l:=(lp38a w ht s v0 v1 d0 d1 r n x q0 q1 a b)) (LI:=fun (i:Nat)=>[(6,loopT false Try.f38.ntmps 0 (lp38b w ht s v0 v1 d0 d1 r n x q0 q1 a b i) (fun _ _ _=>(0:Nat)))]) Y hF (by kernel_rfl) (fun (i:Nat)=>.cons (by kernel_rfl) (t38b w ht s v0 v1 d0 d1 r n x q0 q1 a b i hF Y) (.nil)) (by
  rintro i hp
  exact Hold.of (q38a w ht s v0 v1 d0 d1 r n x q0 q1 a b i) (bq38a w ht s v0 v1 d0 d1 r n x q0 q1 a b i ((peq38a w ht s v0 v1 d0 d1 r n x q0 q1 a b i).mp hp)))
def e38:List SV→Option (List Prop × SV)
 | [.agg [.int .i64 w,.int .i64 ht,.int .i64 s,.int .i64 v0,.int .i64 v1,.int .i64 d0,.int .i64 d1,.int .i64 r],.sl 1 n g_1,.agg [.int .i64 q0,.int .i64 q1],.agg [.int .i64 a,.int .i64 b]]=>some ([Row 1 n g_1,n≤100000],.tup [.sl 5 (if M.Gd.soE (M.Gd.mk w ht s v0 v1 d0 d1 r) n (cI g_1 0) q0 q1 a b=0 then n*(M.wid q0 q1) else 0) (fun k=>[SI (M.soR (cI g_1 0) q0 q1 a b k).k,SI (M.soR (cI g_1 0) q0 q1 a b k).c,SI (M.soR (cI g_1 0) q0 q1 a b k).q,SI (M.soR (cI g_1 0) q0 q1 a b k).a,SI (M.soR (cI g_1 0) q0 q1 a b k).b]),SI (M.Gd.soE (M.Gd.mk w ht s v0 v1 d0 d1 r) n (cI g_1 0) q0 q1 a b)])
 | _=>none
def Rr38 (w ht s v0 v1 d0 d1 r:Int) (n:Nat) (x:Nat→Int) (q0 q1 a b:Int):Prop:=(fun (z1:Bool) (z8 z10:Int) (z3:M.Gd) (z4 z7:Nat) (z5:Prop)=>(fun (z6:Bool) (z0 z9:Int) (z11:Prop)=>(fun (z2:Nat)=>((!decide (M.Gd.er z3=z10))=true→z2=z4∧M.Gd.er z3=z0)∧((!decide (M.Gd.er z3=z10))=false→(z4≤n∧n≤(100000:Nat)∧M.Gd.ok z3)∧(z5∧z5∧(↑n:Int)=(↑n:Int)∧z10=(↑z4:Int)∧w=w∧ht=ht∧s=s∧v0=v0∧v1=v1∧d0=d0∧d1=d1∧r=r∧q0=q0∧q1=q1∧a=a∧b=b∧True)∧(decide (z9≠z10)=false→(z11→z11)∧(z11→z11)∧(z1=false→z11)∧(z6=true→z2=z4∧(3:Int)=z0)∧(z6=false→R64 (q1-q0)∧R64 (q1-q0+(1:Int))∧R64 z8∧(decide ((256:Int)<z8)=true→z2=z4∧(9:Int)=z0)∧(decide ((256:Int)<z8)=false→(z4≤n∧n≤(256:Nat)∧(1:Int)≤q0∧q0≤q1∧q1≤(10:Int))∧(z5∧z4*z7=z4∧z5∧(↑n:Int)=(↑n:Int)∧z10=(↑z4:Int)∧q0=q0∧q1=q1∧a=a∧b=b∧z4*z7=z4∧True)∧(false=false→z4+n*z7≤n*z7∧((n*z7=z2)∧∀ (k:Nat),k<n*z7→(1:Int)=(1:Int)∧x ((z4+k)/z7)=x (k/z7)∧q0+(↑((z4+k)%z7):Int)=q0+(↑(k%z7):Int)∧a=a∧b=b)∧z10=z0)∧(false=true→False))))∧(decide (z9≠z10)=true→z2=z4∧z9=z0))) (if z0=z10 then n*z7 else z4)) (bif z1 then true else !decide (z10≤a∧a≤b∧b≤(1000000000:Int))) (M.Gd.soE z3 n x q0 q1 a b) (M.fe (M.Gd.ceE z3 x) (n-z4) z4) ((!z1)=true)) (!decide ((1:Int)≤q0∧q0≤q1∧q1≤(10:Int))) ((↑n:Int)*(q1-q0+(1:Int))) (0:Int) (M.Gd.mk w ht s v0 v1 d0 d1 r) (0:Nat) (M.wid q0 q1) (n=n∧∀ (k:Nat),k<n→x k=x k)
theorem r38 (w ht s v0 v1 d0 d1 r:Int) (n:Nat) (x:Nat→Int) (q0 q1 a b:Int):V true [] [(28,pureE e28),(71,pureE e71)] Try.f38 [0,1,2,3,4,6,7,8,9,10,11,12,13,15,16,20,22,23,24,25,29,34,47,56,67,68,69,70,78] [(0,loopT false Try.f38.ntmps 0 (lp38 w ht s v0 v1 d0 d1 r n x q0 q1 a b) (fun _ _ _=>(0:Nat))),(4,loopT false Try.f38.ntmps 0 (lp38a w ht s v0 v1 d0 d1 r n x q0 q1 a b) (fun _ _ _=>(0:Nat)))] [.agg [SI w,SI ht,SI s,SI v0,SI v1,SI d0,SI d1,SI r],.sl 1 n (fun k=>[SI (x k)]),.agg [SI q0,SI q1],.agg [SI a,SI b]] (.tup [.sl 5 (if M.Gd.soE (M.Gd.mk w ht s v0 v1 d0 d1 r) n x q0 q1 a b=0 then n*(M.wid q0 q1) else 0) (fun k=>[SI (M.soR x q0 q1 a b k).k,SI (M.soR x q0 q1 a b k).c,SI (M.soR x q0 q1 a b k).q,SI (M.soR x q0 q1 a b k).a,SI (M.soR x q0 q1 a b k).b]),SI (M.Gd.soE (M.Gd.mk w ht s v0 v1 d0 d1 r) n x q0 q1 a b)])=Rr38 w ht s v0 v1 d0 d1 r n x q0 q1 a b:=by kernel_rfl
theorem br38 (w ht s v0 v1 d0 d1 r:Int) (n:Nat) (x:Nat→Int) (q0 q1 a b:Int) (hp:(n≤100000)∧AllP []):Rr38 w ht s v0 v1 d0 d1 r n x q0 q1 a b:=by
 unfold Rr38
 dsimp -iota -proj -eta -zeta only
 obtain ⟨h1,-⟩:=id hp
 unfold M.Gd.er M.Gd.soE
 by_cases hk:M.Gd.ok (M.Gd.mk w ht s v0 v1 d0 d1 r)
 ·by_cases c1:M.fe (M.Gd.ceE (M.Gd.mk w ht s v0 v1 d0 d1 r) x) n 0=0
  ·by_cases c2:1≤q0∧q0≤q1∧q1≤10
   ·by_cases c3:0≤a∧a≤b∧b≤1000000000
    ·have ew:((M.wid q0 q1):Int)=q1-q0+1:=by unfold M.wid; omega
     have hb:n*(M.wid q0 q1)≤100000*10:=Nat.mul_le_mul h1 (by omega)
     have hb2:n*1≤n*(M.wid q0 q1):=Nat.mul_le_mul (Nat.le_refl n) (by omega)
     have em:(n:Int)*(q1-q0+1)=((n*(M.wid q0 q1):Nat):Int):=by rw [Int.natCast_mul,ew]
     have r1:R64 (q1-q0):=by unfold R64; omega
     have r2:R64 (q1-q0+1):=by unfold R64; omega
     have r3:R64 (((n*(M.wid q0 q1):Nat):Int)):=by unfold R64; omega
     simp only [em]
     generalize n*(M.wid q0 q1)=Z at *
     by_cases c4:(256:Int)<Z
     ·simp [hk,c1,c2,c3,r1,r2,r3,c4,h1]
     ·have hn:n≤256:=by omega
      simp [hk,c1,c2,c3,r1,r2,r3,c4,h1,hn]
    ·simp [hk,c1,c2,c3,h1]
   ·simp [hk,c1,c2,h1]
  ·simp [hk,c1,h1]
 ·simp [hk]
theorem s38:PureOK PP 38 e38:=by
 intro xs ps res h hp
 unfold e38 at h
 split at h
 ·rename_i w ht s v0 v1 d0 d1 r n g_1 q0 q1 a b
  cases h
  simp only [AllP.cons] at hp
  obtain ⟨Hg_1,hp⟩:=hp
  exact Spec.args (enterH (Hold.of (r38 w ht s v0 v1 d0 d1 r n (cI g_1 0) q0 q1 a b) (br38 w ht s v0 v1 d0 d1 r n (cI g_1 0) q0 q1 a b hp)) (.nil) (.cons (pureE_ok s28) (.cons (pureE_ok s71) (.nil))) (k:=38) (by kernel_rfl) (by kernel_rfl) (fun Y=>.cons (by kernel_rfl) (t38 w ht s v0 v1 d0 d1 r n (cI g_1 0) q0 q1 a b FOK.wide Y) (.cons (by kernel_rfl) (t38a w ht s v0 v1 d0 d1 r n (cI g_1 0) q0 q1 a b FOK.wide Y) (.nil)))) (.cons (.refl _) (.cons (.row Hg_1 fun _=>rfl) (.cons (.refl _) (.cons (.refl _) .nil))))
 ·cases h
end Go.Proofs.Ytoncoofmijjgeaa.Sep
namespace Go.Proofs.Ytoncoofmijjgeaa.M
open Go
set_option linter.unusedVariables false
set_option linter.unusedSimpArgs false
def fmL (o:Nat→Option Sc):Nat→List Sc
 | 0=>[]
 | i+1=>match o i with
  | some z=>fmL o i ++ [z]
  | none=>fmL o i
def fmN (o:Nat→Option Sc) (i:Nat):Nat:=(fmL o i).length
def fmR (o:Nat→Option Sc) (i:Nat):Nat→Sc:=scR (fmL o i)
theorem fm_stay {o:Nat→Option Sc} {i:Nat} (h:o i=none):fmN o (i+1)=fmN o i∧fmR o (i+1)=fmR o i:=by
 have e:fmL o (i+1)=fmL o i:=by
  conv=>lhs; unfold fmL
  rw [h]
 unfold fmN fmR
 rw [e]
 exact ⟨rfl,rfl⟩
theorem fm_step {o:Nat→Option Sc} {i:Nat} {z:Sc} (h:o i=some z):fmN o (i+1)=fmN o i+1∧∀ k,k<fmN o i+1→fmR o (i+1) k=if k<fmN o i then fmR o i k else z:=by
 have e:fmL o (i+1)=fmL o i ++ [z]:=by
  conv=>lhs; unfold fmL
  rw [h]
 unfold fmN fmR
 rw [e]
 refine ⟨by simp,fun k hk => ?_⟩
 unfold scR
 rw [List.getD_eq_getElem?_getD,List.getD_eq_getElem?_getD]
 by_cases c:k<(fmL o i).length
 ·rw [List.getElem?_append_left c,if_pos c]
 ·rw [List.getElem?_append_right (by omega),if_neg c]
  have e:k-(fmL o i).length=0:=by omega
  rw [e]; rfl
theorem fmN_le {o:Nat→Option Sc} (i:Nat):fmN o i≤i:=by
 induction i with
 | zero=>exact Nat.le_refl _
 | succ i ih =>
  cases h:o i with
  | none=>rw [(fm_stay h).1]; omega
  | some z=>rw [(fm_step h).1]; omega
theorem fm_zero {o:Nat→Option Sc} : fmN o 0=0:=rfl
namespace Gd
def slP (g:Gd) (s:Nat→Sc) (f c:Int):Nat→Bool × Int × Int
 | 0=>(false,0,0)
 | j+1=>if (s j).k=1 then (if (slP g s f c j).1=true then (true,min (slP g s f c j).2.1 ((s j).a+g.T0 (s j).c c),max (slP g s f c j).2.2 ((s j).b+g.T1 (s j).c c+f)) else (true,(s j).a+g.T0 (s j).c c,(s j).b+g.T1 (s j).c c+f)) else slP g s f c j
def slF (g:Gd) (s:Nat→Sc) (f c:Int) (j:Nat):Bool:=(slP g s f c j).1
def slU (g:Gd) (s:Nat→Sc) (f c:Int) (j:Nat):Int:=(slP g s f c j).2.1
def slV (g:Gd) (s:Nat→Sc) (f c:Int) (j:Nat):Int:=(slP g s f c j).2.2
def slA (g:Gd) (s:Nat→Sc) (f c:Int) (j:Nat):Int:=if g.slF s f c j=true then g.slU s f c j else 1099511627776
def slB (g:Gd) (s:Nat→Sc) (f c:Int) (j:Nat):Int:=if g.slF s f c j=true then g.slV s f c j else -1
variable {g : Gd} {s : Nat → Sc} {f c : Int} {j n : Nat}
theorem sl_zero:g.slF s f c 0=false∧g.slU s f c 0=0∧g.slV s f c 0=0∧g.slA s f c 0=1099511627776∧g.slB s f c 0 = -1:=⟨rfl,rfl,rfl,rfl,rfl⟩
theorem sl_stay (h:¬ (s j).k=1):g.slF s f c (j+1)=g.slF s f c j∧g.slU s f c (j+1)=g.slU s f c j∧g.slV s f c (j+1)=g.slV s f c j∧g.slA s f c (j+1)=g.slA s f c j∧g.slB s f c (j+1)=g.slB s f c j:=by
 have e:slP g s f c (j+1)=slP g s f c j:=by
  conv=>lhs; unfold slP
  rw [if_neg h]
 unfold slA slB slF slU slV
 rw [e]
 exact ⟨rfl,rfl,rfl,rfl,rfl⟩
theorem sl_first (h:(s j).k=1) (h2:g.slF s f c j=false):g.slF s f c (j+1)=true∧g.slU s f c (j+1)=(s j).a+g.T0 (s j).c c∧g.slV s f c (j+1)=(s j).b+g.T1 (s j).c c+f:=by
 have e:slP g s f c (j+1)=(true,(s j).a+g.T0 (s j).c c,(s j).b+g.T1 (s j).c c+f):=by
  conv=>lhs; unfold slP
  unfold slF at h2
  rw [if_pos h,if_neg (by rw [h2]; decide)]
 unfold slF slU slV
 rw [e]
 exact ⟨rfl,rfl,rfl⟩
theorem sl_next (h:(s j).k=1) (h2:g.slF s f c j=true):g.slF s f c (j+1)=true∧g.slU s f c (j+1)=min (g.slU s f c j) ((s j).a+g.T0 (s j).c c)∧g.slV s f c (j+1)=max (g.slV s f c j) ((s j).b+g.T1 (s j).c c+f):=by
 have e:slP g s f c (j+1)=(true,min (slP g s f c j).2.1 ((s j).a+g.T0 (s j).c c),max (slP g s f c j).2.2 ((s j).b+g.T1 (s j).c c+f)):=by
  conv=>lhs; unfold slP
  unfold slF at h2
  rw [if_pos h,if_pos h2]
 unfold slF slU slV
 rw [e]
 exact ⟨rfl,rfl,rfl⟩
theorem sl_one (hk:g.ok) (hs:g.Sok (s j)) (hc:g.cell c) (hf:0≤f∧f≤100000000):0≤(s j).a+g.T0 (s j).c c∧(s j).a+g.T0 (s j).c c≤1010485760∧0≤(s j).b+g.T1 (s j).c c∧(s j).b+g.T1 (s j).c c≤1010485760∧(s j).b+g.T1 (s j).c c+f≤1110485760:=by
 obtain ⟨-,h1,-,h2,h3,h4⟩:=hs
 have:=T_bd hk h1 hc
 omega
theorem slA_step (hk:g.ok) (hs:∀ i,i<n→g.Sok (s i)) (hc:g.cell c) (hf:0≤f∧f≤100000000) (hj:j<n) (h:(s j).k=1):g.slA s f c (j+1)=min (g.slA s f c j) ((s j).a+g.T0 (s j).c c)∧g.slB s f c (j+1)=max (g.slB s f c j) ((s j).b+g.T1 (s j).c c+f):=by
 have h3:=sl_one (j:=j) hk (hs j hj) hc hf
 unfold slA slB
 cases h2:g.slF s f c j with
 | false =>
  obtain ⟨e0,e1,e2⟩:=sl_first (g:=g) (f:=f) (c:=c) h h2
  simp only [e0,e1,e2,if_true,Bool.false_eq_true,if_false]
  constructor <;> omega
 | true =>
  obtain ⟨e0,e1,e2⟩:=sl_next (g:=g) (f:=f) (c:=c) h h2
  simp only [e0,e1,e2,if_true]
  exact ⟨trivial,trivial⟩
def slO (g:Gd) (s:Nat→Sc) (f:Int) (n:Nat) (i:Nat):Option Sc :=
 if (s i).k=2 then (if g.slF s f (s i).c n=true∧max (s i).a (g.slU s f (s i).c n)≤min (s i).b (g.slV s f (s i).c n) then some ⟨(s i).k,(s i).c,(s i).q,max (s i).a (g.slU s f (s i).c n),min (s i).b (g.slV s f (s i).c n)⟩ else none) else some (s i)
def slE (g:Gd) (s:Nat→Sc) (f:Int) (n:Nat):Int:=if g.csE n s=0 then (if 0≤f∧f≤100000000 then 0 else 3) else g.csE n s
theorem slO_other {i:Nat} (h:¬ (s i).k=2):g.slO s f n i=some (s i):=by unfold slO; rw [if_neg h]
theorem slO_quake {i:Nat} (h:(s i).k=2) (hs:g.Sok (s i)):g.slO s f n i=if max (s i).a (g.slA s f (s i).c n)≤min (s i).b (g.slB s f (s i).c n) then some ⟨(s i).k,(s i).c,(s i).q,max (s i).a (g.slA s f (s i).c n),min (s i).b (g.slB s f (s i).c n)⟩ else none:=by
 obtain ⟨-,-,-,h2,h3,h4⟩:=hs
 unfold slO slA slB
 rw [if_pos h]
 cases g.slF s f (s i).c n with
 | true=>simp
 | false =>
  simp only [Bool.false_eq_true,if_false,false_and]
  rw [if_neg (by omega)]
end Gd
end Go.Proofs.Ytoncoofmijjgeaa.M
namespace Go.Proofs.Ytoncoofmijjgeaa.Sep
open Go
set_option linter.unusedVariables false
set_option linter.unusedSimpArgs false
def lp42b (w ht s v0 v1 d0 d1 r:Int) (n:Nat) (sk sc sq sa sb:Nat→Int) (f:Int) (i:Nat):LoopS where
 ι:=Nat
 β:=Unit
 pre j:=j≤n∧i<n∧M.Gd.ok (M.Gd.mk w ht s v0 v1 d0 d1 r)∧n≤256∧(∀ i,i<n→M.Gd.Sok (M.Gd.mk w ht s v0 v1 d0 d1 r) ((fun i=>M.Sc.mk (sk i) (sc i) (sq i) (sa i) (sb i)) i))∧0≤f∧f≤100000000
 μ j:=n-j
 next j _ _ _:=j+1
 out _:=()
 early _:=false
 SA j:=[(1,.sl 5 n (fun j=>[SI (sk j),SI (sc j),SI (sq j),SI (sa j),SI (sb j)])),(2,SI f),(3,.ptr 0 0),(9,.vec 1 5 0 (M.fmN (M.Gd.slO (M.Gd.mk w ht s v0 v1 d0 d1 r) (fun i=>M.Sc.mk (sk i) (sc i) (sq i) (sa i) (sb i)) f n) i)),(26,.sl 5 n (fun j=>[SI (sk j),SI (sc j),SI (sq j),SI (sa j),SI (sb j)])),(27,SI n),(28,SI i),(11,.ptr 2 0),(12,SI (M.Gd.slA (M.Gd.mk w ht s v0 v1 d0 d1 r) (fun i=>M.Sc.mk (sk i) (sc i) (sq i) (sa i) (sb i)) f (sc i) j)),(13,SI (M.Gd.slB (M.Gd.mk w ht s v0 v1 d0 d1 r) (fun i=>M.Sc.mk (sk i) (sc i) (sq i) (sa i) (sb i)) f (sc i) j)),(35,.sl 5 n (fun j=>[SI (sk j),SI (sc j),SI (sq j),SI (sa j),SI (sb j)])),(36,SI n),(37,SI j)]
 SH j:=[(0,.cells [SI w,SI ht,SI s,SI v0,SI v1,SI d0,SI d1,SI r]),(1,.row 5 (M.fmN (M.Gd.slO (M.Gd.mk w ht s v0 v1 d0 d1 r) (fun i=>M.Sc.mk (sk i) (sc i) (sq i) (sa i) (sb i)) f n) i) (fun k=>[SI (M.fmR (M.Gd.slO (M.Gd.mk w ht s v0 v1 d0 d1 r) (fun i=>M.Sc.mk (sk i) (sc i) (sq i) (sa i) (sb i)) f n) i k).k,SI (M.fmR (M.Gd.slO (M.Gd.mk w ht s v0 v1 d0 d1 r) (fun i=>M.Sc.mk (sk i) (sc i) (sq i) (sa i) (sb i)) f n) i k).c,SI (M.fmR (M.Gd.slO (M.Gd.mk w ht s v0 v1 d0 d1 r) (fun i=>M.Sc.mk (sk i) (sc i) (sq i) (sa i) (sb i)) f n) i k).q,SI (M.fmR (M.Gd.slO (M.Gd.mk w ht s v0 v1 d0 d1 r) (fun i=>M.Sc.mk (sk i) (sc i) (sq i) (sa i) (sb i)) f n) i k).a,SI (M.fmR (M.Gd.slO (M.Gd.mk w ht s v0 v1 d0 d1 r) (fun i=>M.Sc.mk (sk i) (sc i) (sq i) (sa i) (sb i)) f n) i k).b])),(2,.cells [SI (sk i),SI (sc i),SI (sq i),SI (sa i),SI (sb i)])]
 n0:=3
 NA _:=[(1,.sl 5 n (fun j=>[SI (sk j),SI (sc j),SI (sq j),SI (sa j),SI (sb j)])),(2,SI f),(3,.ptr 0 0),(9,.vec 1 5 0 (M.fmN (M.Gd.slO (M.Gd.mk w ht s v0 v1 d0 d1 r) (fun i=>M.Sc.mk (sk i) (sc i) (sq i) (sa i) (sb i)) f n) i)),(26,.sl 5 n (fun j=>[SI (sk j),SI (sc j),SI (sq j),SI (sa j),SI (sb j)])),(27,SI n),(28,SI i),(11,.ptr 2 0),(12,SI (M.Gd.slA (M.Gd.mk w ht s v0 v1 d0 d1 r) (fun i=>M.Sc.mk (sk i) (sc i) (sq i) (sa i) (sb i)) f (sc i) n)),(13,SI (M.Gd.slB (M.Gd.mk w ht s v0 v1 d0 d1 r) (fun i=>M.Sc.mk (sk i) (sc i) (sq i) (sa i) (sb i)) f (sc i) n))]
 NH _:=[(0,.cells [SI w,SI ht,SI s,SI v0,SI v1,SI d0,SI d1,SI r]),(1,.row 5 (M.fmN (M.Gd.slO (M.Gd.mk w ht s v0 v1 d0 d1 r) (fun i=>M.Sc.mk (sk i) (sc i) (sq i) (sa i) (sb i)) f n) i) (fun k=>[SI (M.fmR (M.Gd.slO (M.Gd.mk w ht s v0 v1 d0 d1 r) (fun i=>M.Sc.mk (sk i) (sc i) (sq i) (sa i) (sb i)) f n) i k).k,SI (M.fmR (M.Gd.slO (M.Gd.mk w ht s v0 v1 d0 d1 r) (fun i=>M.Sc.mk (sk i) (sc i) (sq i) (sa i) (sb i)) f n) i k).c,SI (M.fmR (M.Gd.slO (M.Gd.mk w ht s v0 v1 d0 d1 r) (fun i=>M.Sc.mk (sk i) (sc i) (sq i) (sa i) (sb i)) f n) i k).q,SI (M.fmR (M.Gd.slO (M.Gd.mk w ht s v0 v1 d0 d1 r) (fun i=>M.Sc.mk (sk i) (sc i) (sq i) (sa i) (sb i)) f n) i k).a,SI (M.fmR (M.Gd.slO (M.Gd.mk w ht s v0 v1 d0 d1 r) (fun i=>M.Sc.mk (sk i) (sc i) (sq i) (sa i) (sb i)) f n) i k).b])),(2,.cells [SI (sk i),SI (sc i),SI (sq i),SI (sa i),SI (sb i)])]
 n1:=3
 RA _:=[]
 RH _:=[]
def Rq42b (w ht s v0 v1 d0 d1 r:Int) (n:Nat) (sk sc sq sa sb:Nat→Int) (f:Int) (i:Nat) (j:Nat):Prop:=(fun (z7 z9:Int) (z2:M.Gd) (z8:Nat) (z1:Nat→M.Sc) (z3 z12 z15:Prop)=>(fun (z13 z14:Int) (z4 z6:Nat) (z5:Prop)=>(fun (z10 z16:Int) (z0:Prop)=>(fun (z11:Prop)=>(decide (z9<z7)=true→(0:Int)≤z9∧z9<z7∧z4<n∧(decide (sk z4=(1:Int))=true→M.Gd.ok z2∧M.Gd.cell z2 (sc z4)∧M.Gd.cell z2 (sc i)∧R64 z16∧R64 z10∧R64 (z10+f)∧R64 (z9+(1:Int))∧z5∧n-z8<n-j∧()=()∧z3∧f=f∧z15∧z6=z6∧z3∧z7=z7∧z12∧min z13 z16=M.Gd.slA z2 z1 f (sc i) z8∧max z14 (z10+f)=M.Gd.slB z2 z1 f (sc i) z8∧z11)∧(decide (sk z4=(1:Int))=false→R64 (z9+(1:Int))∧z5∧n-z8<n-j∧()=()∧z3∧f=f∧z15∧z6=z6∧z3∧z7=z7∧z12∧z13=M.Gd.slA z2 z1 f (sc i) z8∧z14=M.Gd.slB z2 z1 f (sc i) z8∧z11))∧(decide (z9<z7)=false→false=false∧z3∧f=f∧z15∧z6=z6∧z3∧z7=z7∧z12∧z13=M.Gd.slA z2 z1 f (sc i) n∧z14=M.Gd.slB z2 z1 f (sc i) n∧z0)) (z3∧z7=z7∧z9+(1:Int)=(↑z8:Int)∧z0)) (sb z4+M.Gd.T1 z2 (sc z4) (sc i)) (sa z4+M.Gd.T0 z2 (sc z4) (sc i)) (w=w∧ht=ht∧s=s∧v0=v0∧v1=v1∧d0=d0∧d1=d1∧r=r∧z6≤z6∧(∀ (k:Nat),k<z6→(M.fmR (M.Gd.slO z2 z1 f n) i k).k=(M.fmR (M.Gd.slO z2 z1 f n) i k).k∧(M.fmR (M.Gd.slO z2 z1 f n) i k).c=(M.fmR (M.Gd.slO z2 z1 f n) i k).c∧(M.fmR (M.Gd.slO z2 z1 f n) i k).q=(M.fmR (M.Gd.slO z2 z1 f n) i k).q∧(M.fmR (M.Gd.slO z2 z1 f n) i k).a=(M.fmR (M.Gd.slO z2 z1 f n) i k).a∧(M.fmR (M.Gd.slO z2 z1 f n) i k).b=(M.fmR (M.Gd.slO z2 z1 f n) i k).b)∧sk i=sk i∧sc i=sc i∧sq i=sq i∧sa i=sa i∧sb i=sb i∧True)) (M.Gd.slA z2 z1 f (sc i) j) (M.Gd.slB z2 z1 f (sc i) j) (Int.toNat z9) (M.fmN (M.Gd.slO z2 z1 f n) i) (z8≤n∧i<n∧M.Gd.ok z2∧n≤(256:Nat)∧(∀ (i:Nat),i<n→M.Gd.Sok z2 (M.Sc.mk (sk i) (sc i) (sq i) (sa i) (sb i)))∧(0:Int)≤f∧f≤(100000000:Int))) (↑n:Int) (↑j:Int) (M.Gd.mk w ht s v0 v1 d0 d1 r) (j+(1:Nat)) (fun i=>M.Sc.mk (sk i) (sc i) (sq i) (sa i) (sb i)) (n=n∧∀ (k:Nat),k<n→sk k=sk k∧sc k=sc k∧sq k=sq k∧sa k=sa k∧sb k=sb k) ((↑i:Int)=(↑i:Int)) ((0:Nat)=(0:Nat))
theorem q42b (w ht s v0 v1 d0 d1 r:Int) (n:Nat) (sk sc sq sa sb:Nat→Int) (f:Int) (i:Nat) (j:Nat):VL true [] [(64,pureE e64)] YS.none Try.f42 0 [0,1,2,3,6,7,8,9,11,12,13,15,16,21,25,26,27,28,29,34,35,36,37,38,43,87] [] 2 (lp42b w ht s v0 v1 d0 d1 r n sk sc sq sa sb f i) (j)=Rq42b w ht s v0 v1 d0 d1 r n sk sc sq sa sb f i j:=by kernel_rfl
theorem peq42b (w ht s v0 v1 d0 d1 r:Int) (n:Nat) (sk sc sq sa sb:Nat→Int) (f:Int) (i:Nat) (j:Nat):(lp42b w ht s v0 v1 d0 d1 r n sk sc sq sa sb f i).pre (j)=(j≤n ∧
 i<n ∧
  M.Gd.ok (M.Gd.mk w ht s v0 v1 d0 d1 r) ∧
   n≤(256:Nat) ∧
    (∀ (i:Nat),i<n→M.Gd.Sok (M.Gd.mk w ht s v0 v1 d0 d1 r) (M.Sc.mk (sk i) (sc i) (sq i) (sa i) (sb i))) ∧
     (0:Int)≤f∧f≤(100000000:Int)):=by kernel_rfl
theorem bq42b (w ht s v0 v1 d0 d1 r:Int) (n:Nat) (sk sc sq sa sb:Nat→Int) (f:Int) (i:Nat) (j:Nat) (hp:j≤n ∧
 i<n ∧
  M.Gd.ok (M.Gd.mk w ht s v0 v1 d0 d1 r) ∧
   n≤(256:Nat) ∧
    (∀ (i:Nat),i<n→M.Gd.Sok (M.Gd.mk w ht s v0 v1 d0 d1 r) (M.Sc.mk (sk i) (sc i) (sq i) (sa i) (sb i))) ∧
     (0:Int)≤f∧f≤(100000000:Int)):Rq42b w ht s v0 v1 d0 d1 r n sk sc sq sa sb f i j:=by
 unfold Rq42b
 dsimp -iota -proj -eta -zeta only
 obtain ⟨h1,h2,hk,hn,hs,f1,f2⟩:=id hp
 have hss:(∀ k,k<n→M.Gd.Sok (M.Gd.mk w ht s v0 v1 d0 d1 r) (M.Sc.mk (sk k) (sc k) (sq k) (sa k) (sb k))):=hs
 have r1:R64 ((j:Int)+1):=by unfold R64; omega
 simp only [Int.toNat_natCast,r1]
 by_cases hl:j<n
 ·have hl':(j:Int)<n:=by omega
  have hz:=hs j hl
  have hzi:=hs i h2
  have hc1:M.Gd.cell (M.Gd.mk w ht s v0 v1 d0 d1 r) (sc j):=hz.2.1
  have hc2:M.Gd.cell (M.Gd.mk w ht s v0 v1 d0 d1 r) (sc i):=hzi.2.1
  by_cases c1:sk j=1
  ·have bd:=M.Gd.sl_one (g:=(M.Gd.mk w ht s v0 v1 d0 d1 r)) (s:=(fun i=>M.Sc.mk (sk i) (sc i) (sq i) (sa i) (sb i))) (f:=f) (c:=sc i) (j:=j) hk hz hc2 ⟨f1,f2⟩
   simp only at bd
   have r2:R64 (sa j+M.Gd.T0 (M.Gd.mk w ht s v0 v1 d0 d1 r) (sc j) (sc i)):=by unfold R64; omega
   have r3:R64 (sb j+M.Gd.T1 (M.Gd.mk w ht s v0 v1 d0 d1 r) (sc j) (sc i)):=by unfold R64; omega
   have r4:R64 (sb j+M.Gd.T1 (M.Gd.mk w ht s v0 v1 d0 d1 r) (sc j) (sc i)+f):=by unfold R64; omega
   obtain ⟨e1,e2⟩:=M.Gd.slA_step (g:=(M.Gd.mk w ht s v0 v1 d0 d1 r)) (s:=(fun i=>M.Sc.mk (sk i) (sc i) (sq i) (sa i) (sb i))) (f:=f) (c:=sc i) (n:=n) hk hs hc2 ⟨f1,f2⟩ hl c1
   simp only [e1,e2]
   clear e1 e2 bd hz hzi
   simp [hl,hl',hk,hn,c1,hc1,hc2,r2,r3,r4,f1,f2,h1,h2]
   try (repeat' apply And.intro)
   all_goals first | omega | exact hs
  ·obtain ⟨e0,e1,e2,e3,e4⟩:=M.Gd.sl_stay (g:=(M.Gd.mk w ht s v0 v1 d0 d1 r)) (s:=(fun i=>M.Sc.mk (sk i) (sc i) (sq i) (sa i) (sb i))) (f:=f) (c:=sc i) (j:=j) c1
   simp only [e0,e1,e2,e3,e4]
   clear e0 e1 e2 e3 e4 hz hzi
   simp [hl,hl',hk,hn,c1,f1,f2,h1,h2]
   try (repeat' apply And.intro)
   all_goals first | omega | exact hs
 ·have e:j=n:=by omega
  simp [e]
theorem t42b (w ht s v0 v1 d0 d1 r:Int) (n:Nat) (sk sc sq sa sb:Nat→Int) (f:Int) (i:Nat) {F:Fence} (hF:FOK F) (Y:YEnv PP YS.none):∀ Q A H nx,loopT false Try.f42.ntmps 0 (lp42b w ht s v0 v1 d0 d1 r n sk sc sq sa sb f i) (fun _ _ _=>(0:Nat)) Q A H nx→WPS Y F Try.f42.ntmps 0 (.block 2 (blkAt 2 Try.f42)) Q A H nx :=
 loopW (E:=[]) (.nil) (O:=[(64,pureE e64)]) (.cons (pureE_ok s64) (.nil)) (ck:=true) (L:=[0,1,2,3,6,7,8,9,11,12,13,15,16,21,25,26,27,28,29,34,35,36,37,38,43,87]) (f:=Try.f42) (m:=0) (id:=2) (l:=(lp42b w ht s v0 v1 d0 d1 r n sk sc sq sa sb f i)) (LI:=fun i=>[]) Y hF (by kernel_rfl) (fun _=>.nil) (by
  rintro j hp
  exact Hold.of (q42b w ht s v0 v1 d0 d1 r n sk sc sq sa sb f i j) (bq42b w ht s v0 v1 d0 d1 r n sk sc sq sa sb f i j ((peq42b w ht s v0 v1 d0 d1 r n sk sc sq sa sb f i j).mp hp)))
def lp42 (w ht s v0 v1 d0 d1 r:Int) (n:Nat) (sk sc sq sa sb:Nat→Int) (f:Int):LoopS where
 ι:=Nat
 β:=Unit
 pre i:=i≤n∧M.Gd.ok (M.Gd.mk w ht s v0 v1 d0 d1 r)∧n≤256∧(∀ i,i<n→M.Gd.Sok (M.Gd.mk w ht s v0 v1 d0 d1 r) ((fun i=>M.Sc.mk (sk i) (sc i) (sq i) (sa i) (sb i)) i))∧0≤f∧f≤100000000
 μ i:=n-i
 next i _ _ _:=i+1
 out _:=()
 early _:=false
 SA i:=[(1,.sl 5 n (fun j=>[SI (sk j),SI (sc j),SI (sq j),SI (sa j),SI (sb j)])),(2,SI f),(3,.ptr 0 0),(9,.vec 1 5 0 (M.fmN (M.Gd.slO (M.Gd.mk w ht s v0 v1 d0 d1 r) (fun i=>M.Sc.mk (sk i) (sc i) (sq i) (sa i) (sb i)) f n) i)),(26,.sl 5 n (fun j=>[SI (sk j),SI (sc j),SI (sq j),SI (sa j),SI (sb j)])),(27,SI n),(28,SI i)]
 SH i:=[(0,.cells [SI w,SI ht,SI s,SI v0,SI v1,SI d0,SI d1,SI r]),(1,.row 5 (M.fmN (M.Gd.slO (M.Gd.mk w ht s v0 v1 d0 d1 r) (fun i=>M.Sc.mk (sk i) (sc i) (sq i) (sa i) (sb i)) f n) i) (fun k=>[SI (M.fmR (M.Gd.slO (M.Gd.mk w ht s v0 v1 d0 d1 r) (fun i=>M.Sc.mk (sk i) (sc i) (sq i) (sa i) (sb i)) f n) i k).k,SI (M.fmR (M.Gd.slO (M.Gd.mk w ht s v0 v1 d0 d1 r) (fun i=>M.Sc.mk (sk i) (sc i) (sq i) (sa i) (sb i)) f n) i k).c,SI (M.fmR (M.Gd.slO (M.Gd.mk w ht s v0 v1 d0 d1 r) (fun i=>M.Sc.mk (sk i) (sc i) (sq i) (sa i) (sb i)) f n) i k).q,SI (M.fmR (M.Gd.slO (M.Gd.mk w ht s v0 v1 d0 d1 r) (fun i=>M.Sc.mk (sk i) (sc i) (sq i) (sa i) (sb i)) f n) i k).a,SI (M.fmR (M.Gd.slO (M.Gd.mk w ht s v0 v1 d0 d1 r) (fun i=>M.Sc.mk (sk i) (sc i) (sq i) (sa i) (sb i)) f n) i k).b]))]
 n0:=2
 NA _:=[(9,.vec 0 5 0 (M.fmN (M.Gd.slO (M.Gd.mk w ht s v0 v1 d0 d1 r) (fun i=>M.Sc.mk (sk i) (sc i) (sq i) (sa i) (sb i)) f n) n))]
 NH _:=[(0,.row 5 (M.fmN (M.Gd.slO (M.Gd.mk w ht s v0 v1 d0 d1 r) (fun i=>M.Sc.mk (sk i) (sc i) (sq i) (sa i) (sb i)) f n) n) (fun k=>[SI (M.fmR (M.Gd.slO (M.Gd.mk w ht s v0 v1 d0 d1 r) (fun i=>M.Sc.mk (sk i) (sc i) (sq i) (sa i) (sb i)) f n) n k).k,SI (M.fmR (M.Gd.slO (M.Gd.mk w ht s v0 v1 d0 d1 r) (fun i=>M.Sc.mk (sk i) (sc i) (sq i) (sa i) (sb i)) f n) n k).c,SI (M.fmR (M.Gd.slO (M.Gd.mk w ht s v0 v1 d0 d1 r) (fun i=>M.Sc.mk (sk i) (sc i) (sq i) (sa i) (sb i)) f n) n k).q,SI (M.fmR (M.Gd.slO (M.Gd.mk w ht s v0 v1 d0 d1 r) (fun i=>M.Sc.mk (sk i) (sc i) (sq i) (sa i) (sb i)) f n) n k).a,SI (M.fmR (M.Gd.slO (M.Gd.mk w ht s v0 v1 d0 d1 r) (fun i=>M.Sc.mk (sk i) (sc i) (sq i) (sa i) (sb i)) f n) n k).b]))]
 n1:=1
 RA _:=[]
 RH _:=[]
def Rq42 (w ht s v0 v1 d0 d1 r:Int) (n:Nat) (sk sc sq sa sb:Nat→Int) (f:Int) (i:Nat):Prop:=(fun (z11 z17:Int) (z1:M.Gd) (z9 z13:Nat) (z0:Nat→M.Sc) (z2:Prop)=>(fun (z14:Bool) (z10:Int) (z4 z7 z8 z15:Nat) (z3 z5 z12:Nat→M.Sc) (z6 z20 z21:Prop)=>(fun (z16 z18 z19:Prop)=>(decide (z17<z11)=true→(0:Int)≤z17∧z17<z11∧z8<n∧(decide (sk z8=(2:Int))=true→(z13≤n∧i<n∧z6)∧(z2∧f=f∧z13=z13∧z4=z4∧z2∧z11=z11∧z17=z17∧(1099511627776:Int)=M.Gd.slA z1 z0 f (sc i) z13∧(- 1:Int)=M.Gd.slB z1 z0 f (sc i) z13∧z2∧z11=z11∧(0:Int)=(↑z13:Int)∧w=w∧ht=ht∧s=s∧v0=v0∧v1=v1∧d0=d0∧d1=d1∧r=r∧z4≤z4∧(∀ (k:Nat),k<z4→(z3 k).k=(z3 k).k∧(z3 k).c=(z3 k).c∧(z3 k).q=(z3 k).q∧(z3 k).a=(z3 k).a∧(z3 k).b=(z3 k).b)∧sk z8=sk i∧sc z8=sc i∧sq z8=sq i∧sa z8=sa i∧sb z8=sb i∧True)∧(false=false→(z14=true→R64 z10∧z19∧z21∧()=()∧z2∧f=f∧z13=z13∧z4=z7∧z2∧z11=z11∧z18∧w=w∧ht=ht∧s=s∧v0=v0∧v1=v1∧d0=d0∧d1=d1∧r=r∧z7≤z4∧(∀ (k:Nat),k<z7→(z3 k).k=(z5 k).k∧(z3 k).c=(z5 k).c∧(z3 k).q=(z5 k).q∧(z3 k).a=(z5 k).a∧(z3 k).b=(z5 k).b)∧True)∧(z14=false→z13+z9≤z9∧z20∧z4≤z4∧z16∧R64 z10∧z19∧z21∧()=()∧z2∧f=f∧z13=z13∧z4+z9=z7∧z2∧z11=z11∧z18∧w=w∧ht=ht∧s=s∧v0=v0∧v1=v1∧d0=d0∧d1=d1∧r=r∧z7≤z4+z9∧(∀ (k:Nat),k<z7→(bif decide (k<z4) then (z3 k).k else sk i)=(z5 k).k∧(bif decide (k<z4) then (z3 k).c else sc i)=(z5 k).c∧(bif decide (k<z4) then (z3 k).q else sq i)=(z5 k).q∧(bif decide (k<z4) then (z3 k).a else max (sa i) (M.Gd.slA z1 z0 f (sc i) n))=(z5 k).a∧(bif decide (k<z4) then (z3 k).b else min (sb i) (M.Gd.slB z1 z0 f (sc i) n))=(z5 k).b)∧True))∧(false=true→false=true∧True))∧(decide (sk z8=(2:Int))=false→z13+z9≤z9∧z20∧z4≤z4∧z16∧R64 z10∧z19∧z21∧()=()∧z2∧f=f∧z13=z13∧z4+z9=z7∧z2∧z11=z11∧z18∧w=w∧ht=ht∧s=s∧v0=v0∧v1=v1∧d0=d0∧d1=d1∧r=r∧z7≤z4+z9∧(∀ (k:Nat),k<z7→(bif decide (k<z4) then (z3 k).k else sk z8)=(z5 k).k∧(bif decide (k<z4) then (z3 k).c else sc z8)=(z5 k).c∧(bif decide (k<z4) then (z3 k).q else sq z8)=(z5 k).q∧(bif decide (k<z4) then (z3 k).a else sa z8)=(z5 k).a∧(bif decide (k<z4) then (z3 k).b else sb z8)=(z5 k).b)∧True))∧(decide (z17<z11)=false→false=false∧z13=z13∧z4=z15∧z15≤z4∧(∀ (k:Nat),k<z15→(z3 k).k=(z12 k).k∧(z3 k).c=(z12 k).c∧(z3 k).q=(z12 k).q∧(z3 k).a=(z12 k).a∧(z3 k).b=(z12 k).b)∧True)) ((z4+z9)*(40:Nat)≤(140737488355328:Nat)) (z10=(↑(i+z9):Int)) (i+z9≤n∧z6)) (decide (min (sb i) (M.Gd.slB z1 z0 f (sc i) n)<max (sa i) (M.Gd.slA z1 z0 f (sc i) n))) (z17+(1:Int)) (M.fmN (M.Gd.slO z1 z0 f n) i) (M.fmN (M.Gd.slO z1 z0 f n) (i+z9)) (Int.toNat z17) (M.fmN (M.Gd.slO z1 z0 f n) n) (M.fmR (M.Gd.slO z1 z0 f n) i) (M.fmR (M.Gd.slO z1 z0 f n) (i+z9)) (M.fmR (M.Gd.slO z1 z0 f n) n) (M.Gd.ok z1∧n≤(256:Nat)∧(∀ (i:Nat),i<n→M.Gd.Sok z1 (M.Sc.mk (sk i) (sc i) (sq i) (sa i) (sb i)))∧(0:Int)≤f∧f≤(100000000:Int)) (∀ (k:Nat),k<z9→true=true) (n-(i+z9)<n-i)) (↑n:Int) (↑i:Int) (M.Gd.mk w ht s v0 v1 d0 d1 r) (1:Nat) (0:Nat) (fun i=>M.Sc.mk (sk i) (sc i) (sq i) (sa i) (sb i)) (n=n∧∀ (k:Nat),k<n→sk k=sk k∧sc k=sc k∧sq k=sq k∧sa k=sa k∧sb k=sb k)
theorem q42 (w ht s v0 v1 d0 d1 r:Int) (n:Nat) (sk sc sq sa sb:Nat→Int) (f:Int) (i:Nat):VL true [] [] YS.none Try.f42 0 [0,1,2,3,6,7,8,9,11,12,13,15,16,21,25,26,27,28,29,34,35,36,37,38,43,87] [(2,loopT false Try.f42.ntmps 0 (lp42b w ht s v0 v1 d0 d1 r n sk sc sq sa sb f i) (fun _ _ _=>(0:Nat)))] 0 (lp42 w ht s v0 v1 d0 d1 r n sk sc sq sa sb f) (i)=Rq42 w ht s v0 v1 d0 d1 r n sk sc sq sa sb f i:=by kernel_rfl
theorem peq42 (w ht s v0 v1 d0 d1 r:Int) (n:Nat) (sk sc sq sa sb:Nat→Int) (f:Int) (i:Nat):(lp42 w ht s v0 v1 d0 d1 r n sk sc sq sa sb f).pre (i)=(i≤n ∧
 M.Gd.ok (M.Gd.mk w ht s v0 v1 d0 d1 r) ∧
  n≤(256:Nat) ∧
   (∀ (i:Nat),i<n→M.Gd.Sok (M.Gd.mk w ht s v0 v1 d0 d1 r) (M.Sc.mk (sk i) (sc i) (sq i) (sa i) (sb i))) ∧
    (0:Int)≤f∧f≤(100000000:Int)):=by kernel_rfl
theorem bq42 (w ht s v0 v1 d0 d1 r:Int) (n:Nat) (sk sc sq sa sb:Nat→Int) (f:Int) (i:Nat) (hp:i≤n ∧
 M.Gd.ok (M.Gd.mk w ht s v0 v1 d0 d1 r) ∧
  n≤(256:Nat) ∧
   (∀ (i:Nat),i<n→M.Gd.Sok (M.Gd.mk w ht s v0 v1 d0 d1 r) (M.Sc.mk (sk i) (sc i) (sq i) (sa i) (sb i))) ∧
    (0:Int)≤f∧f≤(100000000:Int)):Rq42 w ht s v0 v1 d0 d1 r n sk sc sq sa sb f i:=by
 unfold Rq42
 dsimp -iota -proj -eta -zeta only
 obtain ⟨h1,hk,hn,hs,f1,f2⟩:=id hp
 have hss:(∀ k,k<n→M.Gd.Sok (M.Gd.mk w ht s v0 v1 d0 d1 r) (M.Sc.mk (sk k) (sc k) (sq k) (sa k) (sb k))):=hs
 have r1:R64 ((i:Int)+1):=by unfold R64; omega
 have hlen:=M.fmN_le (o:=(M.Gd.slO (M.Gd.mk w ht s v0 v1 d0 d1 r) (fun i=>M.Sc.mk (sk i) (sc i) (sq i) (sa i) (sb i)) f n)) i
 simp only [Int.toNat_natCast,r1]
 by_cases hl:i<n
 ·have hl':(i:Int)<n:=by omega
  have hz:=hs i hl
  have hc:M.Gd.cell (M.Gd.mk w ht s v0 v1 d0 d1 r) (sc i):=hz.2.1
  obtain ⟨z0,z1,z2,z3,z4⟩:=@M.Gd.sl_zero (M.Gd.mk w ht s v0 v1 d0 d1 r) (fun i=>M.Sc.mk (sk i) (sc i) (sq i) (sa i) (sb i)) f (sc i)
  by_cases c1:sk i=2
  ·have ho:=M.Gd.slO_quake (g:=(M.Gd.mk w ht s v0 v1 d0 d1 r)) (s:=(fun i=>M.Sc.mk (sk i) (sc i) (sq i) (sa i) (sb i))) (f:=f) (n:=n) (i:=i) c1 hz
   simp only at ho
   obtain ⟨u,hu⟩ : ∃ u,u=max (sa i) (M.Gd.slA (M.Gd.mk w ht s v0 v1 d0 d1 r) (fun i=>M.Sc.mk (sk i) (sc i) (sq i) (sa i) (sb i)) f (sc i) n):=⟨_,rfl⟩
   obtain ⟨v,hv⟩ : ∃ v,v=min (sb i) (M.Gd.slB (M.Gd.mk w ht s v0 v1 d0 d1 r) (fun i=>M.Sc.mk (sk i) (sc i) (sq i) (sa i) (sb i)) f (sc i) n):=⟨_,rfl⟩
   rw [← hu,← hv] at ho
   simp only [← hu,← hv]
   by_cases c2:u≤v
   ·rw [if_pos c2] at ho
    obtain ⟨e1,e2⟩:=M.fm_step ho
    simp only [e1]
    obtain ⟨na,hna⟩ : ∃ na,na=(M.fmN (M.Gd.slO (M.Gd.mk w ht s v0 v1 d0 d1 r) (fun i=>M.Sc.mk (sk i) (sc i) (sq i) (sa i) (sb i)) f n) i):=⟨_,rfl⟩
    simp only [← hna] at e2 hlen ⊢
    have e3:∀ k,k<na+1→(bif decide (k<na) then (M.fmR (M.Gd.slO (M.Gd.mk w ht s v0 v1 d0 d1 r) (fun i=>M.Sc.mk (sk i) (sc i) (sq i) (sa i) (sb i)) f n) i k).k else sk i)=(M.fmR (M.Gd.slO (M.Gd.mk w ht s v0 v1 d0 d1 r) (fun i=>M.Sc.mk (sk i) (sc i) (sq i) (sa i) (sb i)) f n) (i+1) k).k∧(bif decide (k<na) then (M.fmR (M.Gd.slO (M.Gd.mk w ht s v0 v1 d0 d1 r) (fun i=>M.Sc.mk (sk i) (sc i) (sq i) (sa i) (sb i)) f n) i k).c else sc i)=(M.fmR (M.Gd.slO (M.Gd.mk w ht s v0 v1 d0 d1 r) (fun i=>M.Sc.mk (sk i) (sc i) (sq i) (sa i) (sb i)) f n) (i+1) k).c∧(bif decide (k<na) then (M.fmR (M.Gd.slO (M.Gd.mk w ht s v0 v1 d0 d1 r) (fun i=>M.Sc.mk (sk i) (sc i) (sq i) (sa i) (sb i)) f n) i k).q else sq i)=(M.fmR (M.Gd.slO (M.Gd.mk w ht s v0 v1 d0 d1 r) (fun i=>M.Sc.mk (sk i) (sc i) (sq i) (sa i) (sb i)) f n) (i+1) k).q∧(bif decide (k<na) then (M.fmR (M.Gd.slO (M.Gd.mk w ht s v0 v1 d0 d1 r) (fun i=>M.Sc.mk (sk i) (sc i) (sq i) (sa i) (sb i)) f n) i k).a else u)=(M.fmR (M.Gd.slO (M.Gd.mk w ht s v0 v1 d0 d1 r) (fun i=>M.Sc.mk (sk i) (sc i) (sq i) (sa i) (sb i)) f n) (i+1) k).a∧(bif decide (k<na) then (M.fmR (M.Gd.slO (M.Gd.mk w ht s v0 v1 d0 d1 r) (fun i=>M.Sc.mk (sk i) (sc i) (sq i) (sa i) (sb i)) f n) i k).b else v)=(M.fmR (M.Gd.slO (M.Gd.mk w ht s v0 v1 d0 d1 r) (fun i=>M.Sc.mk (sk i) (sc i) (sq i) (sa i) (sb i)) f n) (i+1) k).b:=fun k hk2=>by
     rw [e2 k hk2]
     by_cases d1:k<na <;> simp [d1]
    clear hu hv ho e1 e2 hna
    simp only [c1] at e3 hz
    simp [hl,hl',c1,c2,hk,hn,f1,f2,z0,z1,z2,z3,z4]
    try (repeat' apply And.intro)
    all_goals first | omega | exact hs | exact fun k hk2=>by simpa using e3 k hk2
   ·rw [if_neg c2] at ho
    obtain ⟨e1,e2⟩:=M.fm_stay ho
    simp only [e1,e2]
    clear hu hv ho e1 e2
    simp only [c1] at hz
    simp [hl,hl',c1,c2,hk,hn,f1,f2,z0,z1,z2,z3,z4]
    try (repeat' apply And.intro)
    all_goals first | omega | exact hs | exact fun _=>⟨⟨by omega,hs⟩,by omega⟩
  ·have ho:=M.Gd.slO_other (g:=(M.Gd.mk w ht s v0 v1 d0 d1 r)) (s:=(fun i=>M.Sc.mk (sk i) (sc i) (sq i) (sa i) (sb i))) (f:=f) (n:=n) (i:=i) c1
   obtain ⟨e1,e2⟩:=M.fm_step ho
   simp only [e1]
   obtain ⟨na,hna⟩ : ∃ na,na=(M.fmN (M.Gd.slO (M.Gd.mk w ht s v0 v1 d0 d1 r) (fun i=>M.Sc.mk (sk i) (sc i) (sq i) (sa i) (sb i)) f n) i):=⟨_,rfl⟩
   simp only [← hna] at e2 hlen ⊢
   have e3:∀ k,k<na+1→(bif decide (k<na) then (M.fmR (M.Gd.slO (M.Gd.mk w ht s v0 v1 d0 d1 r) (fun i=>M.Sc.mk (sk i) (sc i) (sq i) (sa i) (sb i)) f n) i k).k else sk i)=(M.fmR (M.Gd.slO (M.Gd.mk w ht s v0 v1 d0 d1 r) (fun i=>M.Sc.mk (sk i) (sc i) (sq i) (sa i) (sb i)) f n) (i+1) k).k∧(bif decide (k<na) then (M.fmR (M.Gd.slO (M.Gd.mk w ht s v0 v1 d0 d1 r) (fun i=>M.Sc.mk (sk i) (sc i) (sq i) (sa i) (sb i)) f n) i k).c else sc i)=(M.fmR (M.Gd.slO (M.Gd.mk w ht s v0 v1 d0 d1 r) (fun i=>M.Sc.mk (sk i) (sc i) (sq i) (sa i) (sb i)) f n) (i+1) k).c∧(bif decide (k<na) then (M.fmR (M.Gd.slO (M.Gd.mk w ht s v0 v1 d0 d1 r) (fun i=>M.Sc.mk (sk i) (sc i) (sq i) (sa i) (sb i)) f n) i k).q else sq i)=(M.fmR (M.Gd.slO (M.Gd.mk w ht s v0 v1 d0 d1 r) (fun i=>M.Sc.mk (sk i) (sc i) (sq i) (sa i) (sb i)) f n) (i+1) k).q∧(bif decide (k<na) then (M.fmR (M.Gd.slO (M.Gd.mk w ht s v0 v1 d0 d1 r) (fun i=>M.Sc.mk (sk i) (sc i) (sq i) (sa i) (sb i)) f n) i k).a else sa i)=(M.fmR (M.Gd.slO (M.Gd.mk w ht s v0 v1 d0 d1 r) (fun i=>M.Sc.mk (sk i) (sc i) (sq i) (sa i) (sb i)) f n) (i+1) k).a∧(bif decide (k<na) then (M.fmR (M.Gd.slO (M.Gd.mk w ht s v0 v1 d0 d1 r) (fun i=>M.Sc.mk (sk i) (sc i) (sq i) (sa i) (sb i)) f n) i k).b else sb i)=(M.fmR (M.Gd.slO (M.Gd.mk w ht s v0 v1 d0 d1 r) (fun i=>M.Sc.mk (sk i) (sc i) (sq i) (sa i) (sb i)) f n) (i+1) k).b:=fun k hk2=>by
    rw [e2 k hk2]
    by_cases d1:k<na <;> simp [d1]
   clear ho e1 e2 hna
   simp [hl,hl',c1,hk,hn,f1,f2]
   try (repeat' apply And.intro)
   all_goals first | omega | exact hs | exact fun k hk2=>by simpa using e3 k hk2
 ·have e:i=n:=by omega
  subst e
  simp
theorem t42 (w ht s v0 v1 d0 d1 r:Int) (n:Nat) (sk sc sq sa sb:Nat→Int) (f:Int) {F:Fence} (hF:FOK F) (Y:YEnv PP YS.none):∀ Q A H nx,loopT false Try.f42.ntmps 0 (lp42 w ht s v0 v1 d0 d1 r n sk sc sq sa sb f) (fun _ _ _=>(0:Nat)) Q A H nx→WPS Y F Try.f42.ntmps 0 (.block 0 (blkAt 0 Try.f42)) Q A H nx :=
 loopW (E:=[]) (.nil) (O:=[]) (.nil) (ck:=true) (L:=[0,1,2,3,6,7,8,9,11,12,13,15,16,21,25,26,27,28,29,34,35,36,37,38,43,87]) (f:=Try.f42) (m:=0) (id:=0) (l:=(lp42 w ht s v0 v1 d0 d1 r n sk sc sq sa sb f)) (LI:=fun (i:Nat)=>[(2,loopT false Try.f42.ntmps 0 (lp42b w ht s v0 v1 d0 d1 r n sk sc sq sa sb f i) (fun _ _ _=>(0:Nat)))]) Y hF (by kernel_rfl) (fun (i:Nat)=>.cons (by kernel_rfl) (t42b w ht s v0 v1 d0 d1 r n sk sc sq sa sb f i hF Y) (.nil)) (by
  rintro i hp
  exact Hold.of (q42 w ht s v0 v1 d0 d1 r n sk sc sq sa sb f i) (bq42 w ht s v0 v1 d0 d1 r n sk sc sq sa sb f i ((peq42 w ht s v0 v1 d0 d1 r n sk sc sq sa sb f i).mp hp)))
def e42:List SV→Option (List Prop × SV)
 | [.agg [.int .i64 w,.int .i64 ht,.int .i64 s,.int .i64 v0,.int .i64 v1,.int .i64 d0,.int .i64 d1,.int .i64 r],.sl 5 n g_1,.int .i64 f]=>some ([Row 5 n g_1,n≤100000],.tup [.sl 5 (if M.Gd.slE (M.Gd.mk w ht s v0 v1 d0 d1 r) (fun i=>M.Sc.mk ((cI g_1 0) i) ((cI g_1 1) i) ((cI g_1 2) i) ((cI g_1 3) i) ((cI g_1 4) i)) f n=0 then (M.fmN (M.Gd.slO (M.Gd.mk w ht s v0 v1 d0 d1 r) (fun i=>M.Sc.mk ((cI g_1 0) i) ((cI g_1 1) i) ((cI g_1 2) i) ((cI g_1 3) i) ((cI g_1 4) i)) f n) n) else 0) (fun k=>[SI (M.fmR (M.Gd.slO (M.Gd.mk w ht s v0 v1 d0 d1 r) (fun i=>M.Sc.mk ((cI g_1 0) i) ((cI g_1 1) i) ((cI g_1 2) i) ((cI g_1 3) i) ((cI g_1 4) i)) f n) n k).k,SI (M.fmR (M.Gd.slO (M.Gd.mk w ht s v0 v1 d0 d1 r) (fun i=>M.Sc.mk ((cI g_1 0) i) ((cI g_1 1) i) ((cI g_1 2) i) ((cI g_1 3) i) ((cI g_1 4) i)) f n) n k).c,SI (M.fmR (M.Gd.slO (M.Gd.mk w ht s v0 v1 d0 d1 r) (fun i=>M.Sc.mk ((cI g_1 0) i) ((cI g_1 1) i) ((cI g_1 2) i) ((cI g_1 3) i) ((cI g_1 4) i)) f n) n k).q,SI (M.fmR (M.Gd.slO (M.Gd.mk w ht s v0 v1 d0 d1 r) (fun i=>M.Sc.mk ((cI g_1 0) i) ((cI g_1 1) i) ((cI g_1 2) i) ((cI g_1 3) i) ((cI g_1 4) i)) f n) n k).a,SI (M.fmR (M.Gd.slO (M.Gd.mk w ht s v0 v1 d0 d1 r) (fun i=>M.Sc.mk ((cI g_1 0) i) ((cI g_1 1) i) ((cI g_1 2) i) ((cI g_1 3) i) ((cI g_1 4) i)) f n) n k).b]),SI (M.Gd.slE (M.Gd.mk w ht s v0 v1 d0 d1 r) (fun i=>M.Sc.mk ((cI g_1 0) i) ((cI g_1 1) i) ((cI g_1 2) i) ((cI g_1 3) i) ((cI g_1 4) i)) f n)])
 | _=>none
def Rr42 (w ht s v0 v1 d0 d1 r:Int) (n:Nat) (sk sc sq sa sb:Nat→Int) (f:Int):Prop:=(fun (z7:Bool) (z1:M.Gd) (z5:Nat) (z0:Nat→M.Sc) (z3:Prop)=>(fun (z8:Bool) (z9:Int) (z6:Nat) (z2:Nat→M.Sc)=>(fun (z4:Nat)=>z3∧n≤(100000:Nat)∧(z8=true→z4=z5∧(M.Gd.csE z1 n z0)=z9)∧(z8=false→(z7=true→z4=z5∧(3:Int)=z9)∧(z7=false→(z5≤n∧M.Gd.ok z1∧n≤(256:Nat)∧(∀ (i:Nat),i<n→M.Gd.Sok z1 (M.Sc.mk (sk i) (sc i) (sq i) (sa i) (sb i)))∧(0:Int)≤f∧f≤(100000000:Int))∧((n=n∧z3)∧f=f∧M.fmN (M.Gd.slO z1 z0 f n) z5=z5∧(n=n∧z3)∧(↑n:Int)=(↑n:Int)∧(0:Int)=(↑z5:Int)∧w=w∧ht=ht∧s=s∧v0=v0∧v1=v1∧d0=d0∧d1=d1∧r=r∧M.fmN (M.Gd.slO z1 z0 f n) z5=z5∧True)∧(false=false→z5+z6≤z6∧((z6=z4)∧∀ (k:Nat),k<z6→(z2 (z5+k)).k=(z2 k).k∧(z2 (z5+k)).c=(z2 k).c∧(z2 (z5+k)).q=(z2 k).q∧(z2 (z5+k)).a=(z2 k).a∧(z2 (z5+k)).b=(z2 k).b)∧(0:Int)=z9)∧(false=true→False)))) (if z9=(0:Int) then z6 else z5)) (!decide ((M.Gd.csE z1 n z0)=(0:Int))) (M.Gd.slE z1 z0 f n) (M.fmN (M.Gd.slO z1 z0 f n) n) (M.fmR (M.Gd.slO z1 z0 f n) n)) (!decide ((0:Int)≤f∧f≤(100000000:Int))) (M.Gd.mk w ht s v0 v1 d0 d1 r) (0:Nat) (fun i=>M.Sc.mk (sk i) (sc i) (sq i) (sa i) (sb i)) (∀ (k:Nat),k<n→sk k=sk k∧sc k=sc k∧sq k=sq k∧sa k=sa k∧sb k=sb k)
theorem r42 (w ht s v0 v1 d0 d1 r:Int) (n:Nat) (sk sc sq sa sb:Nat→Int) (f:Int):V true [] [(40,pureE e40),(67,pureE e67)] Try.f42 [0,1,2,3,6,7,8,9,11,12,13,15,16,21,25,26,27,28,29,34,35,36,37,38,43,87] [(0,loopT false Try.f42.ntmps 0 (lp42 w ht s v0 v1 d0 d1 r n sk sc sq sa sb f) (fun _ _ _=>(0:Nat)))] [.agg [SI w,SI ht,SI s,SI v0,SI v1,SI d0,SI d1,SI r],.sl 5 n (fun k=>[SI (sk k),SI (sc k),SI (sq k),SI (sa k),SI (sb k)]),SI f] (.tup [.sl 5 (if M.Gd.slE (M.Gd.mk w ht s v0 v1 d0 d1 r) (fun i=>M.Sc.mk (sk i) (sc i) (sq i) (sa i) (sb i)) f n=0 then (M.fmN (M.Gd.slO (M.Gd.mk w ht s v0 v1 d0 d1 r) (fun i=>M.Sc.mk (sk i) (sc i) (sq i) (sa i) (sb i)) f n) n) else 0) (fun k=>[SI (M.fmR (M.Gd.slO (M.Gd.mk w ht s v0 v1 d0 d1 r) (fun i=>M.Sc.mk (sk i) (sc i) (sq i) (sa i) (sb i)) f n) n k).k,SI (M.fmR (M.Gd.slO (M.Gd.mk w ht s v0 v1 d0 d1 r) (fun i=>M.Sc.mk (sk i) (sc i) (sq i) (sa i) (sb i)) f n) n k).c,SI (M.fmR (M.Gd.slO (M.Gd.mk w ht s v0 v1 d0 d1 r) (fun i=>M.Sc.mk (sk i) (sc i) (sq i) (sa i) (sb i)) f n) n k).q,SI (M.fmR (M.Gd.slO (M.Gd.mk w ht s v0 v1 d0 d1 r) (fun i=>M.Sc.mk (sk i) (sc i) (sq i) (sa i) (sb i)) f n) n k).a,SI (M.fmR (M.Gd.slO (M.Gd.mk w ht s v0 v1 d0 d1 r) (fun i=>M.Sc.mk (sk i) (sc i) (sq i) (sa i) (sb i)) f n) n k).b]),SI (M.Gd.slE (M.Gd.mk w ht s v0 v1 d0 d1 r) (fun i=>M.Sc.mk (sk i) (sc i) (sq i) (sa i) (sb i)) f n)])=Rr42 w ht s v0 v1 d0 d1 r n sk sc sq sa sb f:=by kernel_rfl
theorem br42 (w ht s v0 v1 d0 d1 r:Int) (n:Nat) (sk sc sq sa sb:Nat→Int) (f:Int) (hp:(n≤100000)∧AllP []):Rr42 w ht s v0 v1 d0 d1 r n sk sc sq sa sb f:=by
 unfold Rr42
 dsimp -iota -proj -eta -zeta only
 obtain ⟨h1,-⟩:=id hp
 have e:=@M.Gd.csE_ok (M.Gd.mk w ht s v0 v1 d0 d1 r) n (fun i=>M.Sc.mk (sk i) (sc i) (sq i) (sa i) (sb i))
 have hl:=M.fmN_le (o:=(M.Gd.slO (M.Gd.mk w ht s v0 v1 d0 d1 r) (fun i=>M.Sc.mk (sk i) (sc i) (sq i) (sa i) (sb i)) f n)) n
 unfold M.Gd.slE
 by_cases c1:M.Gd.csE (M.Gd.mk w ht s v0 v1 d0 d1 r) n (fun i=>M.Sc.mk (sk i) (sc i) (sq i) (sa i) (sb i))=0
 ·obtain ⟨hk,hn,hs⟩:=e.1 c1
  by_cases c2:0≤f∧f≤100000000
  ·simp [c1,c2,hk,hn,h1,M.fm_zero]
   try exact hs
  ·simp [c1,c2,h1]
 ·simp [c1,h1]
theorem s42:PureOK PP 42 e42:=by
 intro xs ps res h hp
 unfold e42 at h
 split at h
 ·rename_i w ht s v0 v1 d0 d1 r n g_1 f
  cases h
  simp only [AllP.cons] at hp
  obtain ⟨Hg_1,hp⟩:=hp
  exact Spec.args (enterH (Hold.of (r42 w ht s v0 v1 d0 d1 r n (cI g_1 0) (cI g_1 1) (cI g_1 2) (cI g_1 3) (cI g_1 4) f) (br42 w ht s v0 v1 d0 d1 r n (cI g_1 0) (cI g_1 1) (cI g_1 2) (cI g_1 3) (cI g_1 4) f hp)) (.nil) (.cons (pureE_ok s40) (.cons (pureE_ok s67) (.nil))) (k:=42) (by kernel_rfl) (by kernel_rfl) (fun Y=>.cons (by kernel_rfl) (t42 w ht s v0 v1 d0 d1 r n (cI g_1 0) (cI g_1 1) (cI g_1 2) (cI g_1 3) (cI g_1 4) f FOK.wide Y) (.nil))) (.cons (.refl _) (.cons (.row Hg_1 fun _=>rfl) (.cons (.refl _) .nil)))
 ·cases h
end Go.Proofs.Ytoncoofmijjgeaa.Sep
namespace Go.Proofs.Ytoncoofmijjgeaa.M
open Go
set_option linter.unusedVariables false
set_option linter.unusedSimpArgs false
def agO (m:Nat) (r:Int) (z:Int × Int × Int):Int:=if r<0∨(m:Int)-z.2.2<r then (m:Int)-z.2.2 else r
def agK (m:Nat) (r:Int) (L:List (Int × Int × Int)) (k:Nat):Int:=(L.take k).foldl (agO m) r
theorem agK_succ {m:Nat} {r:Int} {L:List (Int × Int × Int)} {k:Nat} (h:k<L.length):agK m r L (k+1)=agO m (agK m r L k) (ysR L k):=by
 unfold agK ysR
 have e:L.take (k+1)=L.take k ++ [L.getD k (0,0,0)]:=by
  rw [List.take_add_one]; simp [h]
 rw [e,List.foldl_append]
 rfl
theorem agK_len {m:Nat} {r:Int} {L:List (Int × Int × Int)} : agK m r L L.length=L.foldl (agO m) r:=by unfold agK; rw [List.take_length]
theorem Cov.some {c:Int→Int} {thr:Int} : ∀ {ys:List (Int × Int × Int)} {x y:Int},Cov c x y ys→((∃ z ∈ ys,thr≤z.2.2) ↔ ∃ t,x≤t∧t<y∧thr≤c t)∧x≤y
 | [],x,y,e=>by
  cases e
  exact ⟨⟨fun ⟨z,hz,_⟩=>absurd hz (by simp),fun ⟨t,h1,h2,_⟩=>by omega⟩,Int.le_refl _⟩
 | (l,h,n) :: r,x,y,⟨e1,e2,e3,e4⟩=>by
  obtain ⟨i1,i2⟩:=Cov.some (thr:=thr) e4
  refine ⟨⟨?_,?_⟩,by omega⟩
  ·rintro ⟨z,hz,h0⟩
   rcases List.mem_cons.1 hz with e | e
   ·subst e
    exact ⟨l,by omega,by omega,by rw [e3 l (Int.le_refl _) e2]; exact h0⟩
   ·obtain ⟨t,t1,t2,t3⟩:=i1.1 ⟨z,e,h0⟩
    exact ⟨t,by omega,t2,t3⟩
  ·rintro ⟨t,t1,t2,t3⟩
   by_cases ct:t≤h
   ·exact ⟨(l,h,n),by simp,by rw [← e3 t (by omega) ct]; exact t3⟩
   ·obtain ⟨z,hz,h0⟩:=i1.2 ⟨t,by omega,t2,t3⟩
    exact ⟨z,by simp [hz],h0⟩
theorem Cov.vals {c:Int→Int} {lo hi:Int} (hc:∀ t,lo≤c t∧c t≤hi):∀ {ys:List (Int × Int × Int)} {x y:Int},Cov c x y ys→∀ z ∈ ys,lo≤z.2.2∧z.2.2≤hi
 | [],_,_,_,z,hz=>absurd hz (by simp)
 | (l,h,n) :: r,x,y,⟨e1,e2,e3,e4⟩,z,hz=>by
  rcases List.mem_cons.1 hz with e | e
  ·subst e
   have:=e3 l (Int.le_refl _) e2
   have:=hc l
   simp only; omega
  ·exact Cov.vals hc e4 z e
end Go.Proofs.Ytoncoofmijjgeaa.M
namespace Go.Proofs.Ytoncoofmijjgeaa.M
namespace Gd
def agY (g:Gd) (x:Nat→Int) (s:Sc) (m:Nat) (P:Nat→Pk):List (Int × Int × Int):=stY s.a s.b (tuQ s.a s.b (fun k=>(g.alR x s P m k).1) (fun k=>(g.alR x s P m k).2) (g.aln x s P m)) (tlen s.a s.b (fun k=>(g.alR x s P m k).1) (fun k=>(g.alR x s P m k).2) (g.aln x s P m))
def agA (g:Gd) (x:Nat→Int) (S:Nat→Sc) (m:Nat) (P:Nat→Pk):Nat→Int
 | 0 => -1
 | i+1=>if (S i).k=1 then (g.agY x (S i) m P).foldl (agO m) (agA g x S m P i) else agA g x S m P i
theorem agA_stay {g:Gd} {x:Nat→Int} {S:Nat→Sc} {m:Nat} {P:Nat→Pk} {i:Nat} (h:¬ (S i).k=1):g.agA x S m P (i+1)=g.agA x S m P i:=by
 conv=>lhs; unfold agA
 rw [if_neg h]
theorem agA_step {g:Gd} {x:Nat→Int} {S:Nat→Sc} {m:Nat} {P:Nat→Pk} {i:Nat} (h:(S i).k=1):g.agA x S m P (i+1)=agK m (g.agA x S m P i) (g.agY x (S i) m P) (g.agY x (S i) m P).length:=by
 conv=>lhs; unfold agA
 rw [if_pos h,agK_len]
end Gd
namespace Gd
end Gd
theorem cntS_bd {u v:Nat→Int} {t:Int} : ∀ n:Nat,0≤cntS u v n t∧cntS u v n t≤n
 | 0=>⟨Int.le_refl _,Int.le_refl _⟩
 | n+1=>by
  obtain ⟨h1,h2⟩:=cntS_bd (u:=u) (v:=v) (t:=t) n
  unfold cntS at *
  unfold sumN
  split <;> omega
theorem ys_val {a b:Int} {u v:Nat→Int} {na m k:Nat} (hab:a≤b) (hn:na≤m) (hk:k<stK a b (tuQ a b u v na) (tlen a b u v na)):0≤(ysR (stY a b (tuQ a b u v na) (tlen a b u v na)) k).2.2∧(ysR (stY a b (tuQ a b u v na) (tlen a b u v na)) k).2.2≤m:=by
 have hc:=Cov.vals (lo:=0) (hi:=na) (fun t=>cntS_bd na) (tuQ_cov (u:=u) (v:=v) (na:=na) hab)
 have hk2:k<(stY a b (tuQ a b u v na) (tlen a b u v na)).length:=hk
 have e:ysR (stY a b (tuQ a b u v na) (tlen a b u v na)) k=(stY a b (tuQ a b u v na) (tlen a b u v na))[k]:=by
  unfold ysR
  simp [List.getD,hk2]
 have:=hc _ (List.getElem_mem hk2)
 rw [e]
 omega
end Go.Proofs.Ytoncoofmijjgeaa.M
namespace Go.Proofs.Ytoncoofmijjgeaa.Sep
open Go
set_option linter.unusedVariables false
set_option linter.unusedSimpArgs false
def lp40w (w ht s v0 v1 d0 d1 r:Int) (n:Nat) (sk sc sq sa sb:Nat→Int):LoopS where
 ι:=Nat
 β:=Int
 pre i:=i≤n∧n≤100000∧M.Gd.ok (M.Gd.mk w ht s v0 v1 d0 d1 r)
 μ i:=n-i
 next i _ _ _:=i+1
 out i:=M.fe (fun j=>M.Gd.srE (M.Gd.mk w ht s v0 v1 d0 d1 r) ((fun i=>M.Sc.mk (sk i) (sc i) (sq i) (sa i) (sb i)) j)) (n-i) i
 early q:=decide (q≠0)
 SA i:=[(2,.ptr 0 0),(16,.sl 5 n (fun j=>[SI (sk j),SI (sc j),SI (sq j),SI (sa j),SI (sb j)])),(17,SI n),(18,SI i)]
 SH _:=[(0,.cells [SI w,SI ht,SI s,SI v0,SI v1,SI d0,SI d1,SI r])]
 n0:=1
 NA _:=[]
 NH _:=[]
 n1:=0
 RA q:=[(4,SI q)]
 RH _:=[]
def Rq40w (w ht s v0 v1 d0 d1 r:Int) (n:Nat) (sk sc sq sa sb:Nat→Int) (i:Nat):Prop:=(fun (z12 z13:Int) (z7:M.Gd) (z10:Nat)=>(fun (z0:Nat) (z1:Nat→Nat→Int)=>(fun (z2 z3 z6:Bool) (z4:Prop)=>(fun (z5 z9:Bool) (z8 z11:Prop)=>(decide (z12<z13)=true→(0:Int)≤z12∧z12<z13∧z0<n∧(z4→z4)∧(z4→z4)∧(z4→z4)∧z11∧z11∧z11∧(z9=true→z6=true∧(2:Int)=z1 (n-i) i∧True)∧(z9=false→M.Gd.ok z7∧((!decide (M.Gd.cell z7 (sc z0)))=true→z6=true∧(4:Int)=z1 (n-i) i∧True)∧((!decide (M.Gd.cell z7 (sc z0)))=false→(z8→z8)∧(z8→z8)∧(z8→z8)∧(z3=false→z8)∧(z5=true→z6=true∧(3:Int)=z1 (n-i) i∧True)∧(z5=false→R64 (z12+(1:Int))∧(z10≤n∧n≤(100000:Nat)∧M.Gd.ok z7)∧n-z10<n-i∧z1 (n-z10) z10=z1 (n-i) i∧(n=n∧∀ (k:Nat),k<n→sk k=sk k∧sc k=sc k∧sq k=sq k∧sa k=sa k∧sb k=sb k)∧z13=z13∧z12+(1:Int)=(↑z10:Int)∧w=w∧ht=ht∧s=s∧v0=v0∧v1=v1∧d0=d0∧d1=d1∧r=r∧True))))∧(decide (z12<z13)=false→z6=false∧True)) (bif z3 then true else !decide ((0:Int)≤sa z0∧sa z0≤sb z0∧sb z0≤(1000000000:Int))) (bif z2 then !decide (sk z0=(3:Int)) else false) ((!z3)=true) (z2=true→z2=true)) (bif !decide (sk z0=(1:Int)) then !decide (sk z0=(2:Int)) else false) (!decide ((1:Int)≤sq z0∧sq z0≤(10:Int))) (decide (z1 (n-i) i≠(0:Int))) ((!decide (sk z0=(1:Int)))=true)) (Int.toNat z12) (M.fe (fun j=>M.Gd.srE z7 (M.Sc.mk (sk j) (sc j) (sq j) (sa j) (sb j))))) (↑i:Int) (↑n:Int) (M.Gd.mk w ht s v0 v1 d0 d1 r) (i+(1:Nat))
theorem q40w (w ht s v0 v1 d0 d1 r:Int) (n:Nat) (sk sc sq sa sb:Nat→Int) (i:Nat):VL true [] [(83,pureE e83),(67,pureE e67),(71,pureE e71)] YS.none Try.f40 0 [0,1,2,4,5,7,11,15,16,17,18,19,22,36,42] [] 0 (lp40w w ht s v0 v1 d0 d1 r n sk sc sq sa sb) (i)=Rq40w w ht s v0 v1 d0 d1 r n sk sc sq sa sb i:=by kernel_rfl
theorem peq40w (w ht s v0 v1 d0 d1 r:Int) (n:Nat) (sk sc sq sa sb:Nat→Int) (i:Nat):(lp40w w ht s v0 v1 d0 d1 r n sk sc sq sa sb).pre (i)=(i≤n∧n≤(100000:Nat)∧M.Gd.ok (M.Gd.mk w ht s v0 v1 d0 d1 r)):=by kernel_rfl
theorem bq40w (w ht s v0 v1 d0 d1 r:Int) (n:Nat) (sk sc sq sa sb:Nat→Int) (i:Nat) (hp:i≤n∧n≤(100000:Nat)∧M.Gd.ok (M.Gd.mk w ht s v0 v1 d0 d1 r)):Rq40w w ht s v0 v1 d0 d1 r n sk sc sq sa sb i:=by
 unfold Rq40w
 dsimp -iota -proj -eta -zeta only
 obtain ⟨h1,h2,hk⟩:=id hp
 have r1:R64 ((i:Int)+1):=by unfold R64; omega
 have f1:=@M.fe_step (fun j=>M.Gd.srE (M.Gd.mk w ht s v0 v1 d0 d1 r) ((fun i=>M.Sc.mk (sk i) (sc i) (sq i) (sa i) (sb i)) j)) n i
 have f2:=@M.fe_stop (fun j=>M.Gd.srE (M.Gd.mk w ht s v0 v1 d0 d1 r) ((fun i=>M.Sc.mk (sk i) (sc i) (sq i) (sa i) (sb i)) j)) n i
 have f3:=@M.fe_end (fun j=>M.Gd.srE (M.Gd.mk w ht s v0 v1 d0 d1 r) ((fun i=>M.Sc.mk (sk i) (sc i) (sq i) (sa i) (sb i)) j)) n i
 simp only [Int.toNat_natCast,r1]
 generalize M.fe (fun j=>M.Gd.srE (M.Gd.mk w ht s v0 v1 d0 d1 r) ((fun i=>M.Sc.mk (sk i) (sc i) (sq i) (sa i) (sb i)) j)) (n-i) i=F at *
 generalize M.fe (fun j=>M.Gd.srE (M.Gd.mk w ht s v0 v1 d0 d1 r) ((fun i=>M.Sc.mk (sk i) (sc i) (sq i) (sa i) (sb i)) j)) (n-(i+1)) (i+1)=F' at *
 simp only [M.Gd.srE] at f1 f2
 by_cases hl:i<n
 ·have f1:=f1 hl
  have f2:=f2 hl
  clear f3
  by_cases c1:1≤sk i∧sk i≤3
  ·have c1':¬ ((¬ sk i=1∧¬ sk i=2)∧¬ sk i=3):=by omega
   by_cases c2:M.Gd.cell (M.Gd.mk w ht s v0 v1 d0 d1 r) (sc i)
   ·by_cases c3:1≤sq i∧sq i≤10
    ·by_cases c4:0≤sa i∧sa i≤sb i∧sb i≤1000000000
     ·simp only [c1,c2,c3,c4,not_true,if_false,and_self,true_implies] at f1
      subst f1
      simp [hl,hk,c1,c1',c2,c3,c4]
      omega
     ·simp [c1,c2,c3,c4] at f2
      simp [hl,hk,c1,c1',c2,c3,c4,f2]
    ·simp [c1,c2,c3] at f2
     simp [hl,hk,c1,c1',c2,c3,f2]
   ·simp [c1,c2] at f2
    simp [hl,hk,c1,c1',c2,f2]
  ·have c1':(¬ sk i=1∧¬ sk i=2)∧¬ sk i=3:=by omega
   simp [c1] at f2
   simp [hl,hk,c1,c1',f2]
 ·have f3:=f3 (by omega)
  subst f3
  simp [hl]
theorem t40w (w ht s v0 v1 d0 d1 r:Int) (n:Nat) (sk sc sq sa sb:Nat→Int) {F:Fence} (hF:FOK F) (Y:YEnv PP YS.none):∀ Q A H nx,loopT false Try.f40.ntmps 0 (lp40w w ht s v0 v1 d0 d1 r n sk sc sq sa sb) (fun _ _ _=>(0:Nat)) Q A H nx→WPS Y F Try.f40.ntmps 0 (.block 0 (blkAt 0 Try.f40)) Q A H nx :=
 loopW (E:=[]) (.nil) (O:=[(83,pureE e83),(67,pureE e67),(71,pureE e71)]) (.cons (pureE_ok s83) (.cons (pureE_ok s67) (.cons (pureE_ok s71) (.nil)))) (ck:=true) (L:=[0,1,2,4,5,7,11,15,16,17,18,19,22,36,42]) (f:=Try.f40) (m:=0) (id:=0) (l:=(lp40w w ht s v0 v1 d0 d1 r n sk sc sq sa sb)) (LI:=fun i=>[]) Y hF (by kernel_rfl) (fun _=>.nil) (by
  rintro i hp
  exact Hold.of (q40w w ht s v0 v1 d0 d1 r n sk sc sq sa sb i) (bq40w w ht s v0 v1 d0 d1 r n sk sc sq sa sb i ((peq40w w ht s v0 v1 d0 d1 r n sk sc sq sa sb i).mp hp)))
def e40w:List SV→Option (List Prop × SV)
 | [.agg [.int .i64 w,.int .i64 ht,.int .i64 s,.int .i64 v0,.int .i64 v1,.int .i64 d0,.int .i64 d1,.int .i64 r],.sl 5 n g_1]=>some ([Row 5 n g_1,n≤9223372036854775807],SI (M.Gd.csE (M.Gd.mk w ht s v0 v1 d0 d1 r) n (fun i=>M.Sc.mk ((cI g_1 0) i) ((cI g_1 1) i) ((cI g_1 2) i) ((cI g_1 3) i) ((cI g_1 4) i))))
 | _=>none
def Rr40w (w ht s v0 v1 d0 d1 r:Int) (n:Nat) (sk sc sq sa sb:Nat→Int):Prop:=(fun (z4:Bool) (z3:Int) (z0:M.Gd)=>(fun (z1 z2:Int)=>((!decide (M.Gd.er z0=z3))=true→M.Gd.er z0=z2)∧((!decide (M.Gd.er z0=z3))=false→(z4=true→(9:Int)=z2)∧(z4=false→((0:Nat)≤n∧n≤(100000:Nat)∧M.Gd.ok z0)∧((n=n∧∀ (k:Nat),k<n→sk k=sk k∧sc k=sc k∧sq k=sq k∧sa k=sa k∧sb k=sb k)∧(↑n:Int)=(↑n:Int)∧z3=(↑(0:Nat):Int)∧w=w∧ht=ht∧s=s∧v0=v0∧v1=v1∧d0=d0∧d1=d1∧r=r∧True)∧(decide (z1≠z3)=false→z3=z2)∧(decide (z1≠z3)=true→z1=z2)))) (M.fe (fun j=>M.Gd.srE z0 (M.Sc.mk (sk j) (sc j) (sq j) (sa j) (sb j))) (n-(0:Nat)) (0:Nat)) (M.Gd.csE z0 n fun i=>M.Sc.mk (sk i) (sc i) (sq i) (sa i) (sb i))) (decide ((256:Int)<(↑n:Int))) (0:Int) (M.Gd.mk w ht s v0 v1 d0 d1 r)
theorem r40w (w ht s v0 v1 d0 d1 r:Int) (n:Nat) (sk sc sq sa sb:Nat→Int):V true [] [(28,pureE e28)] Try.f40 [0,1,2,4,5,7,11,15,16,17,18,19,22,36,42] [(0,loopT false Try.f40.ntmps 0 (lp40w w ht s v0 v1 d0 d1 r n sk sc sq sa sb) (fun _ _ _=>(0:Nat)))] [.agg [SI w,SI ht,SI s,SI v0,SI v1,SI d0,SI d1,SI r],.sl 5 n (fun k=>[SI (sk k),SI (sc k),SI (sq k),SI (sa k),SI (sb k)])] (SI (M.Gd.csE (M.Gd.mk w ht s v0 v1 d0 d1 r) n (fun i=>M.Sc.mk (sk i) (sc i) (sq i) (sa i) (sb i))))=Rr40w w ht s v0 v1 d0 d1 r n sk sc sq sa sb:=by kernel_rfl
theorem br40w (w ht s v0 v1 d0 d1 r:Int) (n:Nat) (sk sc sq sa sb:Nat→Int) (hp:(n≤9223372036854775807)∧AllP []):Rr40w w ht s v0 v1 d0 d1 r n sk sc sq sa sb:=by
 unfold Rr40w
 dsimp -iota -proj -eta -zeta only
 obtain ⟨h1,-⟩:=id hp
 simp only [M.Gd.csE,M.Gd.srL,M.Gd.er,Nat.sub_zero]
 have r1:R64 (n:Int):=by unfold R64; omega
 generalize M.fe (fun j=>M.Gd.srE (M.Gd.mk w ht s v0 v1 d0 d1 r) ((fun i=>M.Sc.mk (sk i) (sc i) (sq i) (sa i) (sb i)) j)) n 0=F
 by_cases hk:M.Gd.ok (M.Gd.mk w ht s v0 v1 d0 d1 r)
 ·by_cases hn:256<n
  ·have hn':(256:Int)<n:=by omega
   simp [hk,hn,hn',r1]
  ·have hn':¬ (256:Int)<n:=by omega
   have h1:n≤100000:=by omega
   simp [hk,hn,hn',h1,r1]
   exact fun h=>h.symm
 ·simp [hk]
theorem s40w:PureOK PP 40 e40w:=by
 intro xs ps res h hp
 unfold e40w at h
 split at h
 ·rename_i w ht s v0 v1 d0 d1 r n g_1
  cases h
  simp only [AllP.cons] at hp
  obtain ⟨Hg_1,hp⟩:=hp
  exact Spec.args (enterH (Hold.of (r40w w ht s v0 v1 d0 d1 r n (cI g_1 0) (cI g_1 1) (cI g_1 2) (cI g_1 3) (cI g_1 4)) (br40w w ht s v0 v1 d0 d1 r n (cI g_1 0) (cI g_1 1) (cI g_1 2) (cI g_1 3) (cI g_1 4) hp)) (.nil) (.cons (pureE_ok s28) (.nil)) (k:=40) (by kernel_rfl) (by kernel_rfl) (fun Y=>.cons (by kernel_rfl) (t40w w ht s v0 v1 d0 d1 r n (cI g_1 0) (cI g_1 1) (cI g_1 2) (cI g_1 3) (cI g_1 4) FOK.wide Y) (.nil))) (.cons (.refl _) (.cons (.row Hg_1 fun _=>rfl) .nil))
 ·cases h
def lp59w (w ht s v0 v1 d0 d1 r:Int) (ns:Nat) (x:Nat→Int) (f:Int) (m:Nat) (pk ps pa pb pc pd:Nat→Int):LoopS where
 ι:=Nat
 β:=Int
 pre i:=i≤m∧m≤100000∧ns≤64
 μ i:=m-i
 next i _ _ _:=i+1
 out i:=M.fe (fun j=>M.Pk.vE ns ((fun i=>M.Pk.mk (pk i) (ps i) (pa i) (pb i) (pc i) (pd i)) j)) (m-i) i
 early q:=decide (q≠0)
 SA i:=[(3,.ptr 0 0),(41,.sl 6 m (fun j=>[SI (pk j),SI (ps j),SI (pa j),SI (pb j),SI (pc j),SI (pd j)])),(42,SI m),(43,SI i)]
 SH _:=[(0,.cells [SI w,SI ht,SI s,SI v0,SI v1,SI d0,SI d1,SI r,.sl 1 ns (fun k=>[SI (x k)]),SI f])]
 n0:=1
 NA _:=[(3,.ptr 0 0)]
 NH _:=[(0,.cells [SI w,SI ht,SI s,SI v0,SI v1,SI d0,SI d1,SI r,.sl 1 ns (fun k=>[SI (x k)]),SI f])]
 n1:=1
 RA q:=[(6,SI q)]
 RH _:=[]
def Rq59w (w ht s v0 v1 d0 d1 r:Int) (ns:Nat) (x:Nat→Int) (f:Int) (m:Nat) (pk ps pa pb pc pd:Nat→Int) (i:Nat):Prop:=(fun (z5 z6:Int) (z4:Nat) (z1:Nat→Nat→Int) (z2:Prop)=>(fun (z7:Bool) (z0:Nat)=>(fun (z3:Int)=>(decide (z5<z6)=true→(0:Int)≤z5∧z5<z6∧z0<m∧(∀ (k:Nat),k<ns→x k=x k)∧ns≤(100000:Nat)∧((!decide (z3=(0:Int)))=true→z7=true∧z3=z1 (m-i) i∧True)∧((!decide (z3=(0:Int)))=false→R64 (z5+(1:Int))∧(z4≤m∧m≤(100000:Nat)∧ns≤(64:Nat))∧m-z4<m-i∧z1 (m-z4) z4=z1 (m-i) i∧(m=m∧∀ (k:Nat),k<m→pk k=pk k∧ps k=ps k∧pa k=pa k∧pb k=pb k∧pc k=pc k∧pd k=pd k)∧z6=z6∧z5+(1:Int)=(↑z4:Int)∧z2))∧(decide (z5<z6)=false→z7=false∧z2)) (M.Pk.vE ns (M.Pk.mk (pk z0) (ps z0) (pa z0) (pb z0) (pc z0) (pd z0)))) (decide (z1 (m-i) i≠(0:Int))) (Int.toNat z5)) (↑i:Int) (↑m:Int) (i+(1:Nat)) (M.fe (fun j=>M.Pk.vE ns (M.Pk.mk (pk j) (ps j) (pa j) (pb j) (pc j) (pd j)))) (w=w∧ht=ht∧s=s∧v0=v0∧v1=v1∧d0=d0∧d1=d1∧r=r∧(ns=ns∧∀ (k:Nat),k<ns→x k=x k)∧f=f∧True)
theorem q59w (w ht s v0 v1 d0 d1 r:Int) (ns:Nat) (x:Nat→Int) (f:Int) (m:Nat) (pk ps pa pb pc pd:Nat→Int) (i:Nat):VL true [] [(87,pureE e87)] YS.none Try.f59 0 [0,1,2,3,6,7,8,9,11,12,17,22,29,36,40,41,42,43,44,51,57] [] 0 (lp59w w ht s v0 v1 d0 d1 r ns x f m pk ps pa pb pc pd) (i)=Rq59w w ht s v0 v1 d0 d1 r ns x f m pk ps pa pb pc pd i:=by kernel_rfl
theorem peq59w (w ht s v0 v1 d0 d1 r:Int) (ns:Nat) (x:Nat→Int) (f:Int) (m:Nat) (pk ps pa pb pc pd:Nat→Int) (i:Nat):(lp59w w ht s v0 v1 d0 d1 r ns x f m pk ps pa pb pc pd).pre (i)=(i≤m∧m≤(100000:Nat)∧ns≤(64:Nat)):=by kernel_rfl
theorem bq59w (w ht s v0 v1 d0 d1 r:Int) (ns:Nat) (x:Nat→Int) (f:Int) (m:Nat) (pk ps pa pb pc pd:Nat→Int) (i:Nat) (hp:i≤m∧m≤(100000:Nat)∧ns≤(64:Nat)):Rq59w w ht s v0 v1 d0 d1 r ns x f m pk ps pa pb pc pd i:=by
 unfold Rq59w
 dsimp -iota -proj -eta -zeta only
 obtain ⟨h1,h2,h3⟩:=id hp
 have r1:R64 ((i:Int)+1):=by unfold R64; omega
 have f1:=@M.fe_step (fun j=>M.Pk.vE ns ((fun i=>M.Pk.mk (pk i) (ps i) (pa i) (pb i) (pc i) (pd i)) j)) m i
 have f2:=@M.fe_stop (fun j=>M.Pk.vE ns ((fun i=>M.Pk.mk (pk i) (ps i) (pa i) (pb i) (pc i) (pd i)) j)) m i
 have f3:=@M.fe_end (fun j=>M.Pk.vE ns ((fun i=>M.Pk.mk (pk i) (ps i) (pa i) (pb i) (pc i) (pd i)) j)) m i
 simp only [Int.toNat_natCast,r1]
 generalize M.fe (fun j=>M.Pk.vE ns ((fun i=>M.Pk.mk (pk i) (ps i) (pa i) (pb i) (pc i) (pd i)) j)) (m-i) i=F at *
 generalize M.fe (fun j=>M.Pk.vE ns ((fun i=>M.Pk.mk (pk i) (ps i) (pa i) (pb i) (pc i) (pd i)) j)) (m-(i+1)) (i+1)=F' at *
 by_cases hl:i<m
 ·have f1:=f1 hl
  have f2:=f2 hl
  clear f3
  by_cases c1:M.Pk.vE ns ((fun i=>M.Pk.mk (pk i) (ps i) (pa i) (pb i) (pc i) (pd i)) i)=0
  ·simp only [c1,true_implies,if_true] at f1
   subst f1
   simp [hl,h3,c1,(show ns≤100000 by omega)]
   try omega
  ·simp only [c1,if_false,ne_eq,not_false_iff,true_implies,not_true] at f2
   simp [hl,h3,c1,f2,(show ns≤100000 by omega)]
   try omega
 ·have f3:=f3 (by omega)
  subst f3
  simp [hl,(show ns≤100000 by omega)]
theorem t59w (w ht s v0 v1 d0 d1 r:Int) (ns:Nat) (x:Nat→Int) (f:Int) (m:Nat) (pk ps pa pb pc pd:Nat→Int) {F:Fence} (hF:FOK F) (Y:YEnv PP YS.none):∀ Q A H nx,loopT false Try.f59.ntmps 0 (lp59w w ht s v0 v1 d0 d1 r ns x f m pk ps pa pb pc pd) (fun _ _ _=>(0:Nat)) Q A H nx→WPS Y F Try.f59.ntmps 0 (.block 0 (blkAt 0 Try.f59)) Q A H nx :=
 loopW (E:=[]) (.nil) (O:=[(87,pureE e87)]) (.cons (pureE_ok s87) (.nil)) (ck:=true) (L:=[0,1,2,3,6,7,8,9,11,12,17,22,29,36,40,41,42,43,44,51,57]) (f:=Try.f59) (m:=0) (id:=0) (l:=(lp59w w ht s v0 v1 d0 d1 r ns x f m pk ps pa pb pc pd)) (LI:=fun i=>[]) Y hF (by kernel_rfl) (fun _=>.nil) (by
  rintro i hp
  exact Hold.of (q59w w ht s v0 v1 d0 d1 r ns x f m pk ps pa pb pc pd i) (bq59w w ht s v0 v1 d0 d1 r ns x f m pk ps pa pb pc pd i ((peq59w w ht s v0 v1 d0 d1 r ns x f m pk ps pa pb pc pd i).mp hp)))
def e59w:List SV→Option (List Prop × SV)
 | [.agg [.int .i64 w,.int .i64 ht,.int .i64 s,.int .i64 v0,.int .i64 v1,.int .i64 d0,.int .i64 d1,.int .i64 r,.sl 1 ns g_1,.int .i64 f],.sl 5 n g_2,.sl 6 m g_3]=>some ([Row 1 ns g_1,Row 5 n g_2,Row 6 m g_3,ns≤100000,n≤9223372036854775807,m≤100000],SI (M.Gd.ckE (M.Gd.mk w ht s v0 v1 d0 d1 r) ns (cI g_1 0) n (fun i=>M.Sc.mk ((cI g_2 0) i) ((cI g_2 1) i) ((cI g_2 2) i) ((cI g_2 3) i) ((cI g_2 4) i)) m (fun i=>M.Pk.mk ((cI g_3 0) i) ((cI g_3 1) i) ((cI g_3 2) i) ((cI g_3 3) i) ((cI g_3 4) i) ((cI g_3 5) i)) f))
 | _=>none
def Rr59w (w ht s v0 v1 d0 d1 r:Int) (ns:Nat) (x:Nat→Int) (f:Int) (n:Nat) (sk sc sq sa sb:Nat→Int) (m:Nat) (pk ps pa pb pc pd:Nat→Int):Prop:=(fun (z7 z9:Bool) (z2 z4:Int) (z1:M.Gd) (z6:Prop)=>(fun (z5 z8:Bool) (z0 z3:Int)=>((!decide (M.Gd.er z1=z4))=true→M.Gd.er z1=z0)∧((!decide (M.Gd.er z1=z4))=false→(z7=true→(9:Int)=z0)∧(z7=false→z6∧ns≤(100000:Nat)∧(z8=true→M.Gd.kn z1 ns x=z0)∧(z8=false→(∀ (k:Nat),k<n→sk k=sk k∧sc k=sc k∧sq k=sq k∧sa k=sa k∧sb k=sb k)∧n≤(9223372036854775807:Nat)∧((!decide (z3=z4))=true→z3=z0)∧((!decide (z3=z4))=false→(z9=true→(9:Int)=z0)∧(z9=false→((0:Nat)≤m∧m≤(100000:Nat)∧ns≤(64:Nat))∧((m=m∧∀ (k:Nat),k<m→pk k=pk k∧ps k=ps k∧pa k=pa k∧pb k=pb k∧pc k=pc k∧pd k=pd k)∧(↑m:Int)=(↑m:Int)∧z4=(↑(0:Nat):Int)∧w=w∧ht=ht∧s=s∧v0=v0∧v1=v1∧d0=d0∧d1=d1∧r=r∧(ns=ns∧z6)∧f=f∧True)∧(decide (z2≠z4)=false→(z5=true→(3:Int)=z0)∧(z5=false→z4=z0))∧(decide (z2≠z4)=true→z2=z0))))))) (!decide (z4≤f∧f≤(8:Int))) (!decide (M.Gd.kn z1 ns x=z4)) (M.Gd.ckE z1 ns x n (fun i=>M.Sc.mk (sk i) (sc i) (sq i) (sa i) (sb i)) m (fun i=>M.Pk.mk (pk i) (ps i) (pa i) (pb i) (pc i) (pd i)) f) (M.Gd.csE z1 n fun i=>M.Sc.mk (sk i) (sc i) (sq i) (sa i) (sb i))) (decide ((64:Int)<(↑ns:Int))) (decide ((64:Int)<(↑m:Int))) (M.fe (fun j=>M.Pk.vE ns (M.Pk.mk (pk j) (ps j) (pa j) (pb j) (pc j) (pd j))) (m-(0:Nat)) (0:Nat)) (0:Int) (M.Gd.mk w ht s v0 v1 d0 d1 r) (∀ (k:Nat),k<ns→x k=x k)
theorem r59w (w ht s v0 v1 d0 d1 r:Int) (ns:Nat) (x:Nat→Int) (f:Int) (n:Nat) (sk sc sq sa sb:Nat→Int) (m:Nat) (pk ps pa pb pc pd:Nat→Int):V true [] [(28,pureE e28),(63,pureE e63),(40,pureE e40w),(67,pureE e67)] Try.f59 [0,1,2,3,6,7,8,9,11,12,17,22,29,36,40,41,42,43,44,51,57] [(0,loopT false Try.f59.ntmps 0 (lp59w w ht s v0 v1 d0 d1 r ns x f m pk ps pa pb pc pd) (fun _ _ _=>(0:Nat)))] [.agg [SI w,SI ht,SI s,SI v0,SI v1,SI d0,SI d1,SI r,.sl 1 ns (fun k=>[SI (x k)]),SI f],.sl 5 n (fun k=>[SI (sk k),SI (sc k),SI (sq k),SI (sa k),SI (sb k)]),.sl 6 m (fun k=>[SI (pk k),SI (ps k),SI (pa k),SI (pb k),SI (pc k),SI (pd k)])] (SI (M.Gd.ckE (M.Gd.mk w ht s v0 v1 d0 d1 r) ns x n (fun i=>M.Sc.mk (sk i) (sc i) (sq i) (sa i) (sb i)) m (fun i=>M.Pk.mk (pk i) (ps i) (pa i) (pb i) (pc i) (pd i)) f))=Rr59w w ht s v0 v1 d0 d1 r ns x f n sk sc sq sa sb m pk ps pa pb pc pd:=by kernel_rfl
theorem br59w (w ht s v0 v1 d0 d1 r:Int) (ns:Nat) (x:Nat→Int) (f:Int) (n:Nat) (sk sc sq sa sb:Nat→Int) (m:Nat) (pk ps pa pb pc pd:Nat→Int) (hp:(ns≤100000)∧(n≤9223372036854775807)∧(m≤100000)∧AllP []):Rr59w w ht s v0 v1 d0 d1 r ns x f n sk sc sq sa sb m pk ps pa pb pc pd:=by
 unfold Rr59w
 dsimp -iota -proj -eta -zeta only
 obtain ⟨h1,h2,h3,-⟩:=id hp
 have r1:R64 (ns:Int):=by unfold R64; omega
 have r2:R64 (m:Int):=by unfold R64; omega
 simp only [M.Gd.ckE,M.Gd.er,M.Gd.kn,M.Gd.csE,Nat.sub_zero]
 obtain ⟨F,hF⟩ : ∃ F,F=M.fe (fun j=>M.Pk.vE ns ((fun i=>M.Pk.mk (pk i) (ps i) (pa i) (pb i) (pc i) (pd i)) j)) m 0:=⟨_,rfl⟩
 obtain ⟨G,hG⟩ : ∃ G,G=M.Gd.srL (M.Gd.mk w ht s v0 v1 d0 d1 r) n (fun i=>M.Sc.mk (sk i) (sc i) (sq i) (sa i) (sb i)):=⟨_,rfl⟩
 simp only [← hF,← hG]
 clear hF hG
 by_cases c1:M.Gd.ok (M.Gd.mk w ht s v0 v1 d0 d1 r)
 ·by_cases c2:64<ns
  ·have c2':(64:Int)<ns:=by omega
   simp [c1,c2,c2',r1]
  ·have c2':¬ (64:Int)<ns:=by omega
   by_cases c3:M.Gd.all (M.Gd.mk w ht s v0 v1 d0 d1 r) ns x
   ·by_cases c4:G=0
    ·by_cases c5:64<m
     ·have c5':(64:Int)<m:=by omega
      simp [c1,c2,c2',c3,c4,c5,c5',h1,h2,h3,r1,r2]
     ·have c5':¬ (64:Int)<m:=by omega
      by_cases c6:F=0
      ·by_cases c7:0≤f∧f≤8 <;> simp [c1,c2,c2',c3,c4,c5,c5',c6,c7,h1,h2,h3,r1,r2]
       all_goals omega
      ·simp [c1,c2,c2',c3,c4,c5,c5',c6,h1,h2,h3,r1,r2]
       try omega
    ·simp [c1,c2,c2',c3,c4,h1,h2,h3,r1,r2]
   ·simp [c1,c2,c2',c3,h1,h2,h3,r1,r2]
 ·simp [c1]
theorem s59w:PureOK PP 59 e59w:=by
 intro xs ps res h hp
 unfold e59w at h
 split at h
 ·rename_i w ht s v0 v1 d0 d1 r ns g_1 f n g_2 m g_3
  cases h
  simp only [AllP.cons] at hp
  obtain ⟨Hg_1,Hg_2,Hg_3,hp⟩:=hp
  exact Spec.args (enterH (Hold.of (r59w w ht s v0 v1 d0 d1 r ns (cI g_1 0) f n (cI g_2 0) (cI g_2 1) (cI g_2 2) (cI g_2 3) (cI g_2 4) m (cI g_3 0) (cI g_3 1) (cI g_3 2) (cI g_3 3) (cI g_3 4) (cI g_3 5)) (br59w w ht s v0 v1 d0 d1 r ns (cI g_1 0) f n (cI g_2 0) (cI g_2 1) (cI g_2 2) (cI g_2 3) (cI g_2 4) m (cI g_3 0) (cI g_3 1) (cI g_3 2) (cI g_3 3) (cI g_3 4) (cI g_3 5) hp)) (.nil) (.cons (pureE_ok s28) (.cons (pureE_ok s63) (.cons (pureE_ok s40w) (.cons (pureE_ok s67) (.nil))))) (k:=59) (by kernel_rfl) (by kernel_rfl) (fun Y=>.cons (by kernel_rfl) (t59w w ht s v0 v1 d0 d1 r ns (cI g_1 0) f m (cI g_3 0) (cI g_3 1) (cI g_3 2) (cI g_3 3) (cI g_3 4) (cI g_3 5) FOK.wide Y) (.nil))) (.cons (.agg (.cons (.refl _) (.cons (.refl _) (.cons (.refl _) (.cons (.refl _) (.cons (.refl _) (.cons (.refl _) (.cons (.refl _) (.cons (.refl _) (.cons (.row Hg_1 fun _=>rfl) (.cons (.refl _) .nil))))))))))) (.cons (.row Hg_2 fun _=>rfl) (.cons (.row Hg_3 fun _=>rfl) .nil)))
 ·cases h
def lp35b (w ht s v0 v1 d0 d1 r:Int) (ns:Nat) (x:Nat→Int) (n:Nat) (sk sc sq sa sb:Nat→Int) (m:Nat) (pk ps pa pb pc pd:Nat→Int) (i:Nat):LoopS where
 ι:=Nat
 β:=Unit
 pre j:=j≤m∧i<n∧M.Gd.ok (M.Gd.mk w ht s v0 v1 d0 d1 r)∧M.Gd.all (M.Gd.mk w ht s v0 v1 d0 d1 r) ns x∧ns≤64∧n≤256∧(∀ i,i<n→M.Gd.Sok (M.Gd.mk w ht s v0 v1 d0 d1 r) ((fun i=>M.Sc.mk (sk i) (sc i) (sq i) (sa i) (sb i)) i))∧(∀ i,i<m→M.Pk.Vd ns ((fun i=>M.Pk.mk (pk i) (ps i) (pa i) (pb i) (pc i) (pd i)) i))∧m≤64
 μ j:=m-j
 next j _ _ _:=j+1
 out _:=()
 early _:=false
 SA j:=[(7,.ptr 0 0),(10,.ptr 1 0),(12,.ptr 2 0),(32,.sl 5 n (fun j=>[SI (sk j),SI (sc j),SI (sq j),SI (sa j),SI (sb j)])),(33,SI n),(34,SI i),(14,.ptr 3 0),(15,.vec 4 2 0 (M.Gd.aln (M.Gd.mk w ht s v0 v1 d0 d1 r) x (M.Sc.mk (sk i) (sc i) (sq i) (sa i) (sb i)) (fun i=>M.Pk.mk (pk i) (ps i) (pa i) (pb i) (pc i) (pd i)) j)),(41,.sl 6 m (fun j=>[SI (pk j),SI (ps j),SI (pa j),SI (pb j),SI (pc j),SI (pd j)])),(42,SI m),(43,SI j)]
 SH j:=[(0,.cells [.sl 6 m (fun j=>[SI (pk j),SI (ps j),SI (pa j),SI (pb j),SI (pc j),SI (pd j)])]),(1,.cells [SI w,SI ht,SI s,SI v0,SI v1,SI d0,SI d1,SI r,.sl 1 ns (fun k=>[SI (x k)]),SI 0]),(2,.cells [SI (M.Gd.agA (M.Gd.mk w ht s v0 v1 d0 d1 r) x (fun i=>M.Sc.mk (sk i) (sc i) (sq i) (sa i) (sb i)) m (fun i=>M.Pk.mk (pk i) (ps i) (pa i) (pb i) (pc i) (pd i)) i)]),(3,.cells [SI (sk i),SI (sc i),SI (sq i),SI (sa i),SI (sb i)]),(4,.row 2 (M.Gd.aln (M.Gd.mk w ht s v0 v1 d0 d1 r) x (M.Sc.mk (sk i) (sc i) (sq i) (sa i) (sb i)) (fun i=>M.Pk.mk (pk i) (ps i) (pa i) (pb i) (pc i) (pd i)) j) (fun k=>[SI (M.Gd.alR (M.Gd.mk w ht s v0 v1 d0 d1 r) x (M.Sc.mk (sk i) (sc i) (sq i) (sa i) (sb i)) (fun i=>M.Pk.mk (pk i) (ps i) (pa i) (pb i) (pc i) (pd i)) j k).1,SI (M.Gd.alR (M.Gd.mk w ht s v0 v1 d0 d1 r) x (M.Sc.mk (sk i) (sc i) (sq i) (sa i) (sb i)) (fun i=>M.Pk.mk (pk i) (ps i) (pa i) (pb i) (pc i) (pd i)) j k).2]))]
 n0:=5
 NA _:=[(7,.ptr 0 0),(10,.ptr 1 0),(12,.ptr 2 0),(32,.sl 5 n (fun j=>[SI (sk j),SI (sc j),SI (sq j),SI (sa j),SI (sb j)])),(33,SI n),(34,SI i),(14,.ptr 3 0),(15,.vec 4 2 0 (M.Gd.aln (M.Gd.mk w ht s v0 v1 d0 d1 r) x (M.Sc.mk (sk i) (sc i) (sq i) (sa i) (sb i)) (fun i=>M.Pk.mk (pk i) (ps i) (pa i) (pb i) (pc i) (pd i)) m))]
 NH _:=[(0,.cells [.sl 6 m (fun j=>[SI (pk j),SI (ps j),SI (pa j),SI (pb j),SI (pc j),SI (pd j)])]),(1,.cells [SI w,SI ht,SI s,SI v0,SI v1,SI d0,SI d1,SI r,.sl 1 ns (fun k=>[SI (x k)]),SI 0]),(2,.cells [SI (M.Gd.agA (M.Gd.mk w ht s v0 v1 d0 d1 r) x (fun i=>M.Sc.mk (sk i) (sc i) (sq i) (sa i) (sb i)) m (fun i=>M.Pk.mk (pk i) (ps i) (pa i) (pb i) (pc i) (pd i)) i)]),(3,.cells [SI (sk i),SI (sc i),SI (sq i),SI (sa i),SI (sb i)]),(4,.row 2 (M.Gd.aln (M.Gd.mk w ht s v0 v1 d0 d1 r) x (M.Sc.mk (sk i) (sc i) (sq i) (sa i) (sb i)) (fun i=>M.Pk.mk (pk i) (ps i) (pa i) (pb i) (pc i) (pd i)) m) (fun k=>[SI (M.Gd.alR (M.Gd.mk w ht s v0 v1 d0 d1 r) x (M.Sc.mk (sk i) (sc i) (sq i) (sa i) (sb i)) (fun i=>M.Pk.mk (pk i) (ps i) (pa i) (pb i) (pc i) (pd i)) m k).1,SI (M.Gd.alR (M.Gd.mk w ht s v0 v1 d0 d1 r) x (M.Sc.mk (sk i) (sc i) (sq i) (sa i) (sb i)) (fun i=>M.Pk.mk (pk i) (ps i) (pa i) (pb i) (pc i) (pd i)) m k).2]))]
 n1:=5
 RA _:=[]
 RH _:=[]
def Rq35b (w ht s v0 v1 d0 d1 r:Int) (ns:Nat) (x:Nat→Int) (n:Nat) (sk sc sq sa sb:Nat→Int) (m:Nat) (pk ps pa pb pc pd:Nat→Int) (i:Nat) (j:Nat):Prop:=(fun (z13 z15 z19:Int) (z2:M.Gd) (z1:M.Sc) (z9 z20:Nat) (z0:Nat→M.Pk) (z4 z7 z10 z16 z17:Prop)=>(fun (z5 z18:Int) (z3:M.Pk) (z8 z11 z21:Nat) (z12 z14:Nat→Int × Int) (z6:Prop)=>(decide (z13<z15)=true→z19≤z13∧z13<z15∧Int.toNat z13<m∧z10∧M.Gd.ok z2∧M.Gd.all z2 ns x∧ns≤(64:Nat)∧M.Gd.Sok z2 z1∧M.Pk.Vd ns z3∧(M.Gd.alB z2 x z1 z3=true→z20+(1:Nat)≤(1:Nat)∧(∀ (k:Nat),k<(1:Nat)→true=true)∧z8≤z8∧(z8+(1:Nat))*(16:Nat)≤(140737488355328:Nat)∧R64 z18∧z6∧m-z9<m-j∧()=()∧z7∧z16∧z17∧z20=z20∧z8+(1:Nat)=z11∧z4∧z15=z15∧z18=(↑z9:Int)∧z4∧w=w∧ht=ht∧s=s∧v0=v0∧v1=v1∧d0=d0∧d1=d1∧r=r∧(ns=ns∧z10)∧z19=z19∧z5=z5∧sk i=sk i∧sc i=sc i∧sq i=sq i∧sa i=sa i∧sb i=sb i∧z11≤z8+(1:Nat)∧(∀ (k:Nat),k<z11→(bif decide (k<z8) then (z12 k).1 else M.Gd.alL z2 x z1 z3)=(z14 k).1∧(bif decide (k<z8) then (z12 k).2 else M.Gd.alH z2 x z1 z3)=(z14 k).2)∧True)∧(M.Gd.alB z2 x z1 z3=false→R64 z18∧z6∧m-z9<m-j∧()=()∧z7∧z16∧z17∧z20=z20∧z8=z11∧z4∧z15=z15∧z18=(↑z9:Int)∧z4∧w=w∧ht=ht∧s=s∧v0=v0∧v1=v1∧d0=d0∧d1=d1∧r=r∧(ns=ns∧z10)∧z19=z19∧z5=z5∧sk i=sk i∧sc i=sc i∧sq i=sq i∧sa i=sa i∧sb i=sb i∧z11≤z8∧(∀ (k:Nat),k<z11→(z12 k).1=(z14 k).1∧(z12 k).2=(z14 k).2)∧True))∧(decide (z13<z15)=false→false=false∧z7∧z16∧z17∧z20=z20∧z8=z21∧z4∧w=w∧ht=ht∧s=s∧v0=v0∧v1=v1∧d0=d0∧d1=d1∧r=r∧(ns=ns∧z10)∧z19=z19∧z5=z5∧sk i=sk i∧sc i=sc i∧sq i=sq i∧sa i=sa i∧sb i=sb i∧z21≤z8∧(∀ (k:Nat),k<z21→(z12 k).1=(M.Gd.alR z2 x z1 z0 m k).1∧(z12 k).2=(M.Gd.alR z2 x z1 z0 m k).2)∧True)) (M.Gd.agA z2 x (fun i=>M.Sc.mk (sk i) (sc i) (sq i) (sa i) (sb i)) m z0 i) (z13+(1:Int)) (M.Pk.mk (pk (Int.toNat z13)) (ps (Int.toNat z13)) (pa (Int.toNat z13)) (pb (Int.toNat z13)) (pc (Int.toNat z13)) (pd (Int.toNat z13))) (M.Gd.aln z2 x z1 z0 j) (M.Gd.aln z2 x z1 z0 z9) (M.Gd.aln z2 x z1 z0 m) (M.Gd.alR z2 x z1 z0 j) (M.Gd.alR z2 x z1 z0 z9) (z9≤m∧i<n∧M.Gd.ok z2∧M.Gd.all z2 ns x∧ns≤(64:Nat)∧n≤(256:Nat)∧(∀ (i:Nat),i<n→M.Gd.Sok z2 (M.Sc.mk (sk i) (sc i) (sq i) (sa i) (sb i)))∧(∀ (i:Nat),i<m→M.Pk.Vd ns (M.Pk.mk (pk i) (ps i) (pa i) (pb i) (pc i) (pd i)))∧m≤(64:Nat))) (↑j:Int) (↑m:Int) (0:Int) (M.Gd.mk w ht s v0 v1 d0 d1 r) (M.Sc.mk (sk i) (sc i) (sq i) (sa i) (sb i)) (j+(1:Nat)) (0:Nat) (fun i=>M.Pk.mk (pk i) (ps i) (pa i) (pb i) (pc i) (pd i)) (m=m∧∀ (k:Nat),k<m→pk k=pk k∧ps k=ps k∧pa k=pa k∧pb k=pb k∧pc k=pc k∧pd k=pd k) (n=n∧∀ (k:Nat),k<n→sk k=sk k∧sc k=sc k∧sq k=sq k∧sa k=sa k∧sb k=sb k) (∀ (k:Nat),k<ns→x k=x k) ((↑n:Int)=(↑n:Int)) ((↑i:Int)=(↑i:Int))
theorem q35b (w ht s v0 v1 d0 d1 r:Int) (ns:Nat) (x:Nat→Int) (n:Nat) (sk sc sq sa sb:Nat→Int) (m:Nat) (pk ps pa pb pc pd:Nat→Int) (i:Nat) (j:Nat):VL true [] [(79,pureE e79)] YS.none Try.f35 0 [0,1,2,3,4,7,8,9,10,11,12,14,15,17,18,19,21,30,32,33,34,35,40,41,42,43,44,54,63,65,75] [] 2 (lp35b w ht s v0 v1 d0 d1 r ns x n sk sc sq sa sb m pk ps pa pb pc pd i) (j)=Rq35b w ht s v0 v1 d0 d1 r ns x n sk sc sq sa sb m pk ps pa pb pc pd i j:=by kernel_rfl
theorem peq35b (w ht s v0 v1 d0 d1 r:Int) (ns:Nat) (x:Nat→Int) (n:Nat) (sk sc sq sa sb:Nat→Int) (m:Nat) (pk ps pa pb pc pd:Nat→Int) (i:Nat) (j:Nat):(lp35b w ht s v0 v1 d0 d1 r ns x n sk sc sq sa sb m pk ps pa pb pc pd i).pre (j)=(j≤m ∧
 i<n ∧
  M.Gd.ok (M.Gd.mk w ht s v0 v1 d0 d1 r) ∧
   M.Gd.all (M.Gd.mk w ht s v0 v1 d0 d1 r) ns x ∧
    ns≤(64:Nat) ∧
     n≤(256:Nat) ∧
      (∀ (i:Nat),i<n→M.Gd.Sok (M.Gd.mk w ht s v0 v1 d0 d1 r) (M.Sc.mk (sk i) (sc i) (sq i) (sa i) (sb i))) ∧
       (∀ (i:Nat),i<m→M.Pk.Vd ns (M.Pk.mk (pk i) (ps i) (pa i) (pb i) (pc i) (pd i)))∧m≤(64:Nat)):=by kernel_rfl
theorem bq35b (w ht s v0 v1 d0 d1 r:Int) (ns:Nat) (x:Nat→Int) (n:Nat) (sk sc sq sa sb:Nat→Int) (m:Nat) (pk ps pa pb pc pd:Nat→Int) (i:Nat) (j:Nat) (hp:j≤m ∧
 i<n ∧
  M.Gd.ok (M.Gd.mk w ht s v0 v1 d0 d1 r) ∧
   M.Gd.all (M.Gd.mk w ht s v0 v1 d0 d1 r) ns x ∧
    ns≤(64:Nat) ∧
     n≤(256:Nat) ∧
      (∀ (i:Nat),i<n→M.Gd.Sok (M.Gd.mk w ht s v0 v1 d0 d1 r) (M.Sc.mk (sk i) (sc i) (sq i) (sa i) (sb i))) ∧
       (∀ (i:Nat),i<m→M.Pk.Vd ns (M.Pk.mk (pk i) (ps i) (pa i) (pb i) (pc i) (pd i)))∧m≤(64:Nat)):Rq35b w ht s v0 v1 d0 d1 r ns x n sk sc sq sa sb m pk ps pa pb pc pd i j:=by
 unfold Rq35b
 dsimp -iota -proj -eta -zeta only
 obtain ⟨h1,hi,hk,ha,hn,hn2,hs,hP,hm⟩:=id hp
 have hz:=hs i hi
 have r1:R64 ((j:Int)+1):=by unfold R64; omega
 have hlen:M.Gd.aln (M.Gd.mk w ht s v0 v1 d0 d1 r) x (M.Sc.mk (sk i) (sc i) (sq i) (sa i) (sb i)) (fun i=>M.Pk.mk (pk i) (ps i) (pa i) (pb i) (pc i) (pd i)) j≤j:=M.Gd.alS_len j
 simp only [Int.toNat_natCast,r1]
 by_cases hl:j<m
 ·have hl':(j:Int)<m:=by omega
  have hv:=hP j hl
  by_cases c:M.Gd.alB (M.Gd.mk w ht s v0 v1 d0 d1 r) x (M.Sc.mk (sk i) (sc i) (sq i) (sa i) (sb i)) ((fun i=>M.Pk.mk (pk i) (ps i) (pa i) (pb i) (pc i) (pd i)) j)=true
  ·obtain ⟨e1,e2⟩:=M.Gd.al_step (g:=(M.Gd.mk w ht s v0 v1 d0 d1 r)) (x:=x) (s:=(M.Sc.mk (sk i) (sc i) (sq i) (sa i) (sb i))) (P:=(fun i=>M.Pk.mk (pk i) (ps i) (pa i) (pb i) (pc i) (pd i))) c
   simp only [e1]
   generalize M.Gd.aln (M.Gd.mk w ht s v0 v1 d0 d1 r) x (M.Sc.mk (sk i) (sc i) (sq i) (sa i) (sb i)) (fun i=>M.Pk.mk (pk i) (ps i) (pa i) (pb i) (pc i) (pd i)) j=na at *
   have e3:∀ k,k<na+1→(bif decide (k<na) then (M.Gd.alR (M.Gd.mk w ht s v0 v1 d0 d1 r) x (M.Sc.mk (sk i) (sc i) (sq i) (sa i) (sb i)) (fun i=>M.Pk.mk (pk i) (ps i) (pa i) (pb i) (pc i) (pd i)) j k).1 else M.Gd.alL (M.Gd.mk w ht s v0 v1 d0 d1 r) x (M.Sc.mk (sk i) (sc i) (sq i) (sa i) (sb i)) ((fun i=>M.Pk.mk (pk i) (ps i) (pa i) (pb i) (pc i) (pd i)) j))=(M.Gd.alR (M.Gd.mk w ht s v0 v1 d0 d1 r) x (M.Sc.mk (sk i) (sc i) (sq i) (sa i) (sb i)) (fun i=>M.Pk.mk (pk i) (ps i) (pa i) (pb i) (pc i) (pd i)) (j+1) k).1∧(bif decide (k<na) then (M.Gd.alR (M.Gd.mk w ht s v0 v1 d0 d1 r) x (M.Sc.mk (sk i) (sc i) (sq i) (sa i) (sb i)) (fun i=>M.Pk.mk (pk i) (ps i) (pa i) (pb i) (pc i) (pd i)) j k).2 else M.Gd.alH (M.Gd.mk w ht s v0 v1 d0 d1 r) x (M.Sc.mk (sk i) (sc i) (sq i) (sa i) (sb i)) ((fun i=>M.Pk.mk (pk i) (ps i) (pa i) (pb i) (pc i) (pd i)) j))=(M.Gd.alR (M.Gd.mk w ht s v0 v1 d0 d1 r) x (M.Sc.mk (sk i) (sc i) (sq i) (sa i) (sb i)) (fun i=>M.Pk.mk (pk i) (ps i) (pa i) (pb i) (pc i) (pd i)) (j+1) k).2:=fun k hk2=>by
    rw [e2 k hk2]
    by_cases d1:k<na <;> simp [d1]
   simp [hl,hl',c,hk,ha,hn,hn2,hi,hz,hm,hv]
   repeat' apply And.intro
   all_goals first | omega | exact hP | exact hs | exact fun k hk2=>by simpa using e3 k hk2
  ·obtain ⟨e1,e2⟩:=M.Gd.al_stay (g:=(M.Gd.mk w ht s v0 v1 d0 d1 r)) (x:=x) (s:=(M.Sc.mk (sk i) (sc i) (sq i) (sa i) (sb i))) (P:=(fun i=>M.Pk.mk (pk i) (ps i) (pa i) (pb i) (pc i) (pd i))) c
   simp only [e1,e2]
   simp [hl,hl',c,hk,ha,hn,hn2,hi,hz,hm,hv]
   repeat' apply And.intro
   all_goals first | omega | exact hP | exact hs
 ·have e:j=m:=by omega
  subst e
  simp
theorem t35b (w ht s v0 v1 d0 d1 r:Int) (ns:Nat) (x:Nat→Int) (n:Nat) (sk sc sq sa sb:Nat→Int) (m:Nat) (pk ps pa pb pc pd:Nat→Int) (i:Nat) {F:Fence} (hF:FOK F) (Y:YEnv PP YS.none):∀ Q A H nx,loopT false Try.f35.ntmps 0 (lp35b w ht s v0 v1 d0 d1 r ns x n sk sc sq sa sb m pk ps pa pb pc pd i) (fun _ _ _=>(0:Nat)) Q A H nx→WPS Y F Try.f35.ntmps 0 (.block 2 (blkAt 2 Try.f35)) Q A H nx :=
 loopW (E:=[]) (.nil) (O:=[(79,pureE e79)]) (.cons (pureE_ok s79) (.nil)) (ck:=true) (L:=[0,1,2,3,4,7,8,9,10,11,12,14,15,17,18,19,21,30,32,33,34,35,40,41,42,43,44,54,63,65,75]) (f:=Try.f35) (m:=0) (id:=2) (l:=(lp35b w ht s v0 v1 d0 d1 r ns x n sk sc sq sa sb m pk ps pa pb pc pd i)) (LI:=fun i=>[]) Y hF (by kernel_rfl) (fun _=>.nil) (by
  rintro j hp
  exact Hold.of (q35b w ht s v0 v1 d0 d1 r ns x n sk sc sq sa sb m pk ps pa pb pc pd i j) (bq35b w ht s v0 v1 d0 d1 r ns x n sk sc sq sa sb m pk ps pa pb pc pd i j ((peq35b w ht s v0 v1 d0 d1 r ns x n sk sc sq sa sb m pk ps pa pb pc pd i j).mp hp)))
def lp35r (w ht s v0 v1 d0 d1 r:Int) (ns:Nat) (x:Nat→Int) (n:Nat) (sk sc sq sa sb:Nat→Int) (m:Nat) (pk ps pa pb pc pd:Nat→Int) (i:Nat):RangeS where
 ι:=Unit
 pre _ _:=i<n∧M.Gd.ok (M.Gd.mk w ht s v0 v1 d0 d1 r)∧M.Gd.all (M.Gd.mk w ht s v0 v1 d0 d1 r) ns x∧ns≤64∧n≤256∧(∀ i,i<n→M.Gd.Sok (M.Gd.mk w ht s v0 v1 d0 d1 r) ((fun i=>M.Sc.mk (sk i) (sc i) (sq i) (sa i) (sb i)) i))∧(∀ i,i<m→M.Pk.Vd ns ((fun i=>M.Pk.mk (pk i) (ps i) (pa i) (pb i) (pc i) (pd i)) i))∧m≤64
 cnt _:=(M.stK (sa i) (sb i) (M.tuQ (sa i) (sb i) (fun k=>(M.Gd.alR (M.Gd.mk w ht s v0 v1 d0 d1 r) x (M.Sc.mk (sk i) (sc i) (sq i) (sa i) (sb i)) (fun i=>M.Pk.mk (pk i) (ps i) (pa i) (pb i) (pc i) (pd i)) m k).1) (fun k=>(M.Gd.alR (M.Gd.mk w ht s v0 v1 d0 d1 r) x (M.Sc.mk (sk i) (sc i) (sq i) (sa i) (sb i)) (fun i=>M.Pk.mk (pk i) (ps i) (pa i) (pb i) (pc i) (pd i)) m k).2) (M.Gd.aln (M.Gd.mk w ht s v0 v1 d0 d1 r) x (M.Sc.mk (sk i) (sc i) (sq i) (sa i) (sb i)) (fun i=>M.Pk.mk (pk i) (ps i) (pa i) (pb i) (pc i) (pd i)) m)) (M.tlen (sa i) (sb i) (fun k=>(M.Gd.alR (M.Gd.mk w ht s v0 v1 d0 d1 r) x (M.Sc.mk (sk i) (sc i) (sq i) (sa i) (sb i)) (fun i=>M.Pk.mk (pk i) (ps i) (pa i) (pb i) (pc i) (pd i)) m k).1) (fun k=>(M.Gd.alR (M.Gd.mk w ht s v0 v1 d0 d1 r) x (M.Sc.mk (sk i) (sc i) (sq i) (sa i) (sb i)) (fun i=>M.Pk.mk (pk i) (ps i) (pa i) (pb i) (pc i) (pd i)) m k).2) (M.Gd.aln (M.Gd.mk w ht s v0 v1 d0 d1 r) x (M.Sc.mk (sk i) (sc i) (sq i) (sa i) (sb i)) (fun i=>M.Pk.mk (pk i) (ps i) (pa i) (pb i) (pc i) (pd i)) m)))
 f _ k:=[.agg [SI (M.ysR (M.stY (sa i) (sb i) (M.tuQ (sa i) (sb i) (fun k=>(M.Gd.alR (M.Gd.mk w ht s v0 v1 d0 d1 r) x (M.Sc.mk (sk i) (sc i) (sq i) (sa i) (sb i)) (fun i=>M.Pk.mk (pk i) (ps i) (pa i) (pb i) (pc i) (pd i)) m k).1) (fun k=>(M.Gd.alR (M.Gd.mk w ht s v0 v1 d0 d1 r) x (M.Sc.mk (sk i) (sc i) (sq i) (sa i) (sb i)) (fun i=>M.Pk.mk (pk i) (ps i) (pa i) (pb i) (pc i) (pd i)) m k).2) (M.Gd.aln (M.Gd.mk w ht s v0 v1 d0 d1 r) x (M.Sc.mk (sk i) (sc i) (sq i) (sa i) (sb i)) (fun i=>M.Pk.mk (pk i) (ps i) (pa i) (pb i) (pc i) (pd i)) m)) (M.tlen (sa i) (sb i) (fun k=>(M.Gd.alR (M.Gd.mk w ht s v0 v1 d0 d1 r) x (M.Sc.mk (sk i) (sc i) (sq i) (sa i) (sb i)) (fun i=>M.Pk.mk (pk i) (ps i) (pa i) (pb i) (pc i) (pd i)) m k).1) (fun k=>(M.Gd.alR (M.Gd.mk w ht s v0 v1 d0 d1 r) x (M.Sc.mk (sk i) (sc i) (sq i) (sa i) (sb i)) (fun i=>M.Pk.mk (pk i) (ps i) (pa i) (pb i) (pc i) (pd i)) m k).2) (M.Gd.aln (M.Gd.mk w ht s v0 v1 d0 d1 r) x (M.Sc.mk (sk i) (sc i) (sq i) (sa i) (sb i)) (fun i=>M.Pk.mk (pk i) (ps i) (pa i) (pb i) (pc i) (pd i)) m))) k).1,SI (M.ysR (M.stY (sa i) (sb i) (M.tuQ (sa i) (sb i) (fun k=>(M.Gd.alR (M.Gd.mk w ht s v0 v1 d0 d1 r) x (M.Sc.mk (sk i) (sc i) (sq i) (sa i) (sb i)) (fun i=>M.Pk.mk (pk i) (ps i) (pa i) (pb i) (pc i) (pd i)) m k).1) (fun k=>(M.Gd.alR (M.Gd.mk w ht s v0 v1 d0 d1 r) x (M.Sc.mk (sk i) (sc i) (sq i) (sa i) (sb i)) (fun i=>M.Pk.mk (pk i) (ps i) (pa i) (pb i) (pc i) (pd i)) m k).2) (M.Gd.aln (M.Gd.mk w ht s v0 v1 d0 d1 r) x (M.Sc.mk (sk i) (sc i) (sq i) (sa i) (sb i)) (fun i=>M.Pk.mk (pk i) (ps i) (pa i) (pb i) (pc i) (pd i)) m)) (M.tlen (sa i) (sb i) (fun k=>(M.Gd.alR (M.Gd.mk w ht s v0 v1 d0 d1 r) x (M.Sc.mk (sk i) (sc i) (sq i) (sa i) (sb i)) (fun i=>M.Pk.mk (pk i) (ps i) (pa i) (pb i) (pc i) (pd i)) m k).1) (fun k=>(M.Gd.alR (M.Gd.mk w ht s v0 v1 d0 d1 r) x (M.Sc.mk (sk i) (sc i) (sq i) (sa i) (sb i)) (fun i=>M.Pk.mk (pk i) (ps i) (pa i) (pb i) (pc i) (pd i)) m k).2) (M.Gd.aln (M.Gd.mk w ht s v0 v1 d0 d1 r) x (M.Sc.mk (sk i) (sc i) (sq i) (sa i) (sb i)) (fun i=>M.Pk.mk (pk i) (ps i) (pa i) (pb i) (pc i) (pd i)) m))) k).2.1],SI (M.ysR (M.stY (sa i) (sb i) (M.tuQ (sa i) (sb i) (fun k=>(M.Gd.alR (M.Gd.mk w ht s v0 v1 d0 d1 r) x (M.Sc.mk (sk i) (sc i) (sq i) (sa i) (sb i)) (fun i=>M.Pk.mk (pk i) (ps i) (pa i) (pb i) (pc i) (pd i)) m k).1) (fun k=>(M.Gd.alR (M.Gd.mk w ht s v0 v1 d0 d1 r) x (M.Sc.mk (sk i) (sc i) (sq i) (sa i) (sb i)) (fun i=>M.Pk.mk (pk i) (ps i) (pa i) (pb i) (pc i) (pd i)) m k).2) (M.Gd.aln (M.Gd.mk w ht s v0 v1 d0 d1 r) x (M.Sc.mk (sk i) (sc i) (sq i) (sa i) (sb i)) (fun i=>M.Pk.mk (pk i) (ps i) (pa i) (pb i) (pc i) (pd i)) m)) (M.tlen (sa i) (sb i) (fun k=>(M.Gd.alR (M.Gd.mk w ht s v0 v1 d0 d1 r) x (M.Sc.mk (sk i) (sc i) (sq i) (sa i) (sb i)) (fun i=>M.Pk.mk (pk i) (ps i) (pa i) (pb i) (pc i) (pd i)) m k).1) (fun k=>(M.Gd.alR (M.Gd.mk w ht s v0 v1 d0 d1 r) x (M.Sc.mk (sk i) (sc i) (sq i) (sa i) (sb i)) (fun i=>M.Pk.mk (pk i) (ps i) (pa i) (pb i) (pc i) (pd i)) m k).2) (M.Gd.aln (M.Gd.mk w ht s v0 v1 d0 d1 r) x (M.Sc.mk (sk i) (sc i) (sq i) (sa i) (sb i)) (fun i=>M.Pk.mk (pk i) (ps i) (pa i) (pb i) (pc i) (pd i)) m))) k).2.2]
 SA _:=[(7,.ptr 0 0),(10,.ptr 1 0),(12,.ptr 2 0),(32,.sl 5 n (fun j=>[SI (sk j),SI (sc j),SI (sq j),SI (sa j),SI (sb j)])),(33,SI n),(34,SI i),(63,.fn 100 [] [.sptr 2 1 (fun _=>[SI (sa i),SI (sb i)]) 0 0,.sptr 1 1 (fun _=>[.sl 2 (M.Gd.aln (M.Gd.mk w ht s v0 v1 d0 d1 r) x (M.Sc.mk (sk i) (sc i) (sq i) (sa i) (sb i)) (fun i=>M.Pk.mk (pk i) (ps i) (pa i) (pb i) (pc i) (pd i)) m) (fun k=>[SI (M.Gd.alR (M.Gd.mk w ht s v0 v1 d0 d1 r) x (M.Sc.mk (sk i) (sc i) (sq i) (sa i) (sb i)) (fun i=>M.Pk.mk (pk i) (ps i) (pa i) (pb i) (pc i) (pd i)) m k).1,SI (M.Gd.alR (M.Gd.mk w ht s v0 v1 d0 d1 r) x (M.Sc.mk (sk i) (sc i) (sq i) (sa i) (sb i)) (fun i=>M.Pk.mk (pk i) (ps i) (pa i) (pb i) (pc i) (pd i)) m k).2])]) 0 0])]
 mf:=3
 n0:=3
 SH _ k:=[(0,.cells [.sl 6 m (fun j=>[SI (pk j),SI (ps j),SI (pa j),SI (pb j),SI (pc j),SI (pd j)])]),(1,.cells [SI w,SI ht,SI s,SI v0,SI v1,SI d0,SI d1,SI r,.sl 1 ns (fun k=>[SI (x k)]),SI 0]),(2,.cells [SI (M.agK m (M.Gd.agA (M.Gd.mk w ht s v0 v1 d0 d1 r) x (fun i=>M.Sc.mk (sk i) (sc i) (sq i) (sa i) (sb i)) m (fun i=>M.Pk.mk (pk i) (ps i) (pa i) (pb i) (pc i) (pd i)) i) (M.stY (sa i) (sb i) (M.tuQ (sa i) (sb i) (fun k=>(M.Gd.alR (M.Gd.mk w ht s v0 v1 d0 d1 r) x (M.Sc.mk (sk i) (sc i) (sq i) (sa i) (sb i)) (fun i=>M.Pk.mk (pk i) (ps i) (pa i) (pb i) (pc i) (pd i)) m k).1) (fun k=>(M.Gd.alR (M.Gd.mk w ht s v0 v1 d0 d1 r) x (M.Sc.mk (sk i) (sc i) (sq i) (sa i) (sb i)) (fun i=>M.Pk.mk (pk i) (ps i) (pa i) (pb i) (pc i) (pd i)) m k).2) (M.Gd.aln (M.Gd.mk w ht s v0 v1 d0 d1 r) x (M.Sc.mk (sk i) (sc i) (sq i) (sa i) (sb i)) (fun i=>M.Pk.mk (pk i) (ps i) (pa i) (pb i) (pc i) (pd i)) m)) (M.tlen (sa i) (sb i) (fun k=>(M.Gd.alR (M.Gd.mk w ht s v0 v1 d0 d1 r) x (M.Sc.mk (sk i) (sc i) (sq i) (sa i) (sb i)) (fun i=>M.Pk.mk (pk i) (ps i) (pa i) (pb i) (pc i) (pd i)) m k).1) (fun k=>(M.Gd.alR (M.Gd.mk w ht s v0 v1 d0 d1 r) x (M.Sc.mk (sk i) (sc i) (sq i) (sa i) (sb i)) (fun i=>M.Pk.mk (pk i) (ps i) (pa i) (pb i) (pc i) (pd i)) m k).2) (M.Gd.aln (M.Gd.mk w ht s v0 v1 d0 d1 r) x (M.Sc.mk (sk i) (sc i) (sq i) (sa i) (sb i)) (fun i=>M.Pk.mk (pk i) (ps i) (pa i) (pb i) (pc i) (pd i)) m))) k)])]
def Rq35r (w ht s v0 v1 d0 d1 r:Int) (ns:Nat) (x:Nat→Int) (n:Nat) (sk sc sq sa sb:Nat→Int) (m:Nat) (pk ps pa pb pc pd:Nat→Int) (i:Nat)  (k:Nat):Prop:=(fun (z1:Int) (z0:List (Int × Int × Int)) (z3 z4 z7:Prop)=>(fun (z5:Int) (z2:Prop)=>(fun (z6:Bool) (z8:Prop)=>z8∧z8∧z8∧(z2→R64 z5)∧z8∧z8∧(decide (M.agK m z1 z0 k<(0:Int))=false→z2)∧(z6=true→R64 z5∧z3∧z4∧w=w∧ht=ht∧s=s∧v0=v0∧v1=v1∧d0=d0∧d1=d1∧r=r∧z7∧(0:Int)=(0:Int)∧z5=M.agK m z1 z0 (k+(1:Nat))∧True)∧(z6=false→z3∧z4∧w=w∧ht=ht∧s=s∧v0=v0∧v1=v1∧d0=d0∧d1=d1∧r=r∧z7∧(0:Int)=(0:Int)∧M.agK m z1 z0 k=M.agK m z1 z0 (k+(1:Nat))∧True)) (bif decide (M.agK m z1 z0 k<(0:Int)) then true else decide (z5<M.agK m z1 z0 k)) (z2→z2)) ((↑m:Int)-(M.ysR z0 k).2.2) ((!decide (M.agK m z1 z0 k<(0:Int)))=true)) (M.Gd.agA (M.Gd.mk w ht s v0 v1 d0 d1 r) x (fun i=>M.Sc.mk (sk i) (sc i) (sq i) (sa i) (sb i)) m (fun i=>M.Pk.mk (pk i) (ps i) (pa i) (pb i) (pc i) (pd i)) i) (M.stY (sa i) (sb i) (M.tuQ (sa i) (sb i) (fun k=>(M.Gd.alR (M.Gd.mk w ht s v0 v1 d0 d1 r) x (M.Sc.mk (sk i) (sc i) (sq i) (sa i) (sb i)) (fun i=>M.Pk.mk (pk i) (ps i) (pa i) (pb i) (pc i) (pd i)) m k).1) (fun k=>(M.Gd.alR (M.Gd.mk w ht s v0 v1 d0 d1 r) x (M.Sc.mk (sk i) (sc i) (sq i) (sa i) (sb i)) (fun i=>M.Pk.mk (pk i) (ps i) (pa i) (pb i) (pc i) (pd i)) m k).2) (M.Gd.aln (M.Gd.mk w ht s v0 v1 d0 d1 r) x (M.Sc.mk (sk i) (sc i) (sq i) (sa i) (sb i)) (fun i=>M.Pk.mk (pk i) (ps i) (pa i) (pb i) (pc i) (pd i)) m)) (M.tlen (sa i) (sb i) (fun k=>(M.Gd.alR (M.Gd.mk w ht s v0 v1 d0 d1 r) x (M.Sc.mk (sk i) (sc i) (sq i) (sa i) (sb i)) (fun i=>M.Pk.mk (pk i) (ps i) (pa i) (pb i) (pc i) (pd i)) m k).1) (fun k=>(M.Gd.alR (M.Gd.mk w ht s v0 v1 d0 d1 r) x (M.Sc.mk (sk i) (sc i) (sq i) (sa i) (sb i)) (fun i=>M.Pk.mk (pk i) (ps i) (pa i) (pb i) (pc i) (pd i)) m k).2) (M.Gd.aln (M.Gd.mk w ht s v0 v1 d0 d1 r) x (M.Sc.mk (sk i) (sc i) (sq i) (sa i) (sb i)) (fun i=>M.Pk.mk (pk i) (ps i) (pa i) (pb i) (pc i) (pd i)) m))) (i<n∧M.Gd.ok (M.Gd.mk w ht s v0 v1 d0 d1 r)∧M.Gd.all (M.Gd.mk w ht s v0 v1 d0 d1 r) ns x∧ns≤(64:Nat)∧n≤(256:Nat)∧(∀ (i:Nat),i<n→M.Gd.Sok (M.Gd.mk w ht s v0 v1 d0 d1 r) (M.Sc.mk (sk i) (sc i) (sq i) (sa i) (sb i)))∧(∀ (i:Nat),i<m→M.Pk.Vd ns (M.Pk.mk (pk i) (ps i) (pa i) (pb i) (pc i) (pd i)))∧m≤(64:Nat)) (m=m∧∀ (k:Nat),k<m→pk k=pk k∧ps k=ps k∧pa k=pa k∧pb k=pb k∧pc k=pc k∧pd k=pd k) (ns=ns∧∀ (k:Nat),k<ns→x k=x k)
theorem q35r (w ht s v0 v1 d0 d1 r:Int) (ns:Nat) (x:Nat→Int) (n:Nat) (sk sc sq sa sb:Nat→Int) (m:Nat) (pk ps pa pb pc pd:Nat→Int) (i:Nat)  (k:Nat):VR true [] [] YS.none Try.f35 [0,1,2,3,4,7,8,9,10,11,12,14,15,17,18,19,21,30,32,33,34,35,40,41,42,43,44,54,63,65,75] [] 4 (lp35r w ht s v0 v1 d0 d1 r ns x n sk sc sq sa sb m pk ps pa pb pc pd i) (()) k=Rq35r w ht s v0 v1 d0 d1 r ns x n sk sc sq sa sb m pk ps pa pb pc pd i k:=by kernel_rfl
theorem peq35r (w ht s v0 v1 d0 d1 r:Int) (ns:Nat) (x:Nat→Int) (n:Nat) (sk sc sq sa sb:Nat→Int) (m:Nat) (pk ps pa pb pc pd:Nat→Int) (i:Nat)  (k:Nat):(lp35r w ht s v0 v1 d0 d1 r ns x n sk sc sq sa sb m pk ps pa pb pc pd i).pre (()) k=(i<n ∧
 M.Gd.ok (M.Gd.mk w ht s v0 v1 d0 d1 r) ∧
  M.Gd.all (M.Gd.mk w ht s v0 v1 d0 d1 r) ns x ∧
   ns≤(64:Nat) ∧
    n≤(256:Nat) ∧
     (∀ (i:Nat),i<n→M.Gd.Sok (M.Gd.mk w ht s v0 v1 d0 d1 r) (M.Sc.mk (sk i) (sc i) (sq i) (sa i) (sb i))) ∧
      (∀ (i:Nat),i<m→M.Pk.Vd ns (M.Pk.mk (pk i) (ps i) (pa i) (pb i) (pc i) (pd i)))∧m≤(64:Nat)):=by kernel_rfl
theorem ceq35r (w ht s v0 v1 d0 d1 r:Int) (ns:Nat) (x:Nat→Int) (n:Nat) (sk sc sq sa sb:Nat→Int) (m:Nat) (pk ps pa pb pc pd:Nat→Int) (i:Nat)  (k:Nat):(k<(lp35r w ht s v0 v1 d0 d1 r ns x n sk sc sq sa sb m pk ps pa pb pc pd i).cnt (()))=(k <
 M.stK (sa i) (sb i)
  (M.tuQ (sa i) (sb i)
   (fun k =>
    (M.Gd.alR (M.Gd.mk w ht s v0 v1 d0 d1 r) x (M.Sc.mk (sk i) (sc i) (sq i) (sa i) (sb i))
      (fun i=>M.Pk.mk (pk i) (ps i) (pa i) (pb i) (pc i) (pd i)) m k).1)
   (fun k =>
    (M.Gd.alR (M.Gd.mk w ht s v0 v1 d0 d1 r) x (M.Sc.mk (sk i) (sc i) (sq i) (sa i) (sb i))
      (fun i=>M.Pk.mk (pk i) (ps i) (pa i) (pb i) (pc i) (pd i)) m k).2)
   (M.Gd.aln (M.Gd.mk w ht s v0 v1 d0 d1 r) x (M.Sc.mk (sk i) (sc i) (sq i) (sa i) (sb i))
    (fun i=>M.Pk.mk (pk i) (ps i) (pa i) (pb i) (pc i) (pd i)) m))
  (M.tlen (sa i) (sb i)
   (fun k =>
    (M.Gd.alR (M.Gd.mk w ht s v0 v1 d0 d1 r) x (M.Sc.mk (sk i) (sc i) (sq i) (sa i) (sb i))
      (fun i=>M.Pk.mk (pk i) (ps i) (pa i) (pb i) (pc i) (pd i)) m k).1)
   (fun k =>
    (M.Gd.alR (M.Gd.mk w ht s v0 v1 d0 d1 r) x (M.Sc.mk (sk i) (sc i) (sq i) (sa i) (sb i))
      (fun i=>M.Pk.mk (pk i) (ps i) (pa i) (pb i) (pc i) (pd i)) m k).2)
   (M.Gd.aln (M.Gd.mk w ht s v0 v1 d0 d1 r) x (M.Sc.mk (sk i) (sc i) (sq i) (sa i) (sb i))
    (fun i=>M.Pk.mk (pk i) (ps i) (pa i) (pb i) (pc i) (pd i)) m))):=by kernel_rfl
theorem bq35r (w ht s v0 v1 d0 d1 r:Int) (ns:Nat) (x:Nat→Int) (n:Nat) (sk sc sq sa sb:Nat→Int) (m:Nat) (pk ps pa pb pc pd:Nat→Int) (i:Nat)  (k:Nat) (hk:k <
 M.stK (sa i) (sb i)
  (M.tuQ (sa i) (sb i)
   (fun k =>
    (M.Gd.alR (M.Gd.mk w ht s v0 v1 d0 d1 r) x (M.Sc.mk (sk i) (sc i) (sq i) (sa i) (sb i))
      (fun i=>M.Pk.mk (pk i) (ps i) (pa i) (pb i) (pc i) (pd i)) m k).1)
   (fun k =>
    (M.Gd.alR (M.Gd.mk w ht s v0 v1 d0 d1 r) x (M.Sc.mk (sk i) (sc i) (sq i) (sa i) (sb i))
      (fun i=>M.Pk.mk (pk i) (ps i) (pa i) (pb i) (pc i) (pd i)) m k).2)
   (M.Gd.aln (M.Gd.mk w ht s v0 v1 d0 d1 r) x (M.Sc.mk (sk i) (sc i) (sq i) (sa i) (sb i))
    (fun i=>M.Pk.mk (pk i) (ps i) (pa i) (pb i) (pc i) (pd i)) m))
  (M.tlen (sa i) (sb i)
   (fun k =>
    (M.Gd.alR (M.Gd.mk w ht s v0 v1 d0 d1 r) x (M.Sc.mk (sk i) (sc i) (sq i) (sa i) (sb i))
      (fun i=>M.Pk.mk (pk i) (ps i) (pa i) (pb i) (pc i) (pd i)) m k).1)
   (fun k =>
    (M.Gd.alR (M.Gd.mk w ht s v0 v1 d0 d1 r) x (M.Sc.mk (sk i) (sc i) (sq i) (sa i) (sb i))
      (fun i=>M.Pk.mk (pk i) (ps i) (pa i) (pb i) (pc i) (pd i)) m k).2)
   (M.Gd.aln (M.Gd.mk w ht s v0 v1 d0 d1 r) x (M.Sc.mk (sk i) (sc i) (sq i) (sa i) (sb i))
    (fun i=>M.Pk.mk (pk i) (ps i) (pa i) (pb i) (pc i) (pd i)) m))) (hp:i<n ∧
 M.Gd.ok (M.Gd.mk w ht s v0 v1 d0 d1 r) ∧
  M.Gd.all (M.Gd.mk w ht s v0 v1 d0 d1 r) ns x ∧
   ns≤(64:Nat) ∧
    n≤(256:Nat) ∧
     (∀ (i:Nat),i<n→M.Gd.Sok (M.Gd.mk w ht s v0 v1 d0 d1 r) (M.Sc.mk (sk i) (sc i) (sq i) (sa i) (sb i))) ∧
      (∀ (i:Nat),i<m→M.Pk.Vd ns (M.Pk.mk (pk i) (ps i) (pa i) (pb i) (pc i) (pd i)))∧m≤(64:Nat)):Rq35r w ht s v0 v1 d0 d1 r ns x n sk sc sq sa sb m pk ps pa pb pc pd i k:=by
 unfold Rq35r
 dsimp -iota -proj -eta -zeta only
 obtain ⟨hi,hkk,ha,hn,hn2,hs,hP,hm⟩:=id hp
 have e:=M.agK_succ (m:=m) (r:=(M.Gd.agA (M.Gd.mk w ht s v0 v1 d0 d1 r) x (fun i=>M.Sc.mk (sk i) (sc i) (sq i) (sa i) (sb i)) m (fun i=>M.Pk.mk (pk i) (ps i) (pa i) (pb i) (pc i) (pd i)) i)) (L:=(M.stY (sa i) (sb i) (M.tuQ (sa i) (sb i) (fun k=>(M.Gd.alR (M.Gd.mk w ht s v0 v1 d0 d1 r) x (M.Sc.mk (sk i) (sc i) (sq i) (sa i) (sb i)) (fun i=>M.Pk.mk (pk i) (ps i) (pa i) (pb i) (pc i) (pd i)) m k).1) (fun k=>(M.Gd.alR (M.Gd.mk w ht s v0 v1 d0 d1 r) x (M.Sc.mk (sk i) (sc i) (sq i) (sa i) (sb i)) (fun i=>M.Pk.mk (pk i) (ps i) (pa i) (pb i) (pc i) (pd i)) m k).2) (M.Gd.aln (M.Gd.mk w ht s v0 v1 d0 d1 r) x (M.Sc.mk (sk i) (sc i) (sq i) (sa i) (sb i)) (fun i=>M.Pk.mk (pk i) (ps i) (pa i) (pb i) (pc i) (pd i)) m)) (M.tlen (sa i) (sb i) (fun k=>(M.Gd.alR (M.Gd.mk w ht s v0 v1 d0 d1 r) x (M.Sc.mk (sk i) (sc i) (sq i) (sa i) (sb i)) (fun i=>M.Pk.mk (pk i) (ps i) (pa i) (pb i) (pc i) (pd i)) m k).1) (fun k=>(M.Gd.alR (M.Gd.mk w ht s v0 v1 d0 d1 r) x (M.Sc.mk (sk i) (sc i) (sq i) (sa i) (sb i)) (fun i=>M.Pk.mk (pk i) (ps i) (pa i) (pb i) (pc i) (pd i)) m k).2) (M.Gd.aln (M.Gd.mk w ht s v0 v1 d0 d1 r) x (M.Sc.mk (sk i) (sc i) (sq i) (sa i) (sb i)) (fun i=>M.Pk.mk (pk i) (ps i) (pa i) (pb i) (pc i) (pd i)) m)))) (k:=k) hk
 simp only [e]
 unfold M.agO
 have hz:=hs i hi
 obtain ⟨z1,z2,z3,z4,z5,z6⟩:=id hz
 simp only at z5
 have hy:=M.ys_val (u:=(fun k=>(M.Gd.alR (M.Gd.mk w ht s v0 v1 d0 d1 r) x (M.Sc.mk (sk i) (sc i) (sq i) (sa i) (sb i)) (fun i=>M.Pk.mk (pk i) (ps i) (pa i) (pb i) (pc i) (pd i)) m k).1)) (v:=(fun k=>(M.Gd.alR (M.Gd.mk w ht s v0 v1 d0 d1 r) x (M.Sc.mk (sk i) (sc i) (sq i) (sa i) (sb i)) (fun i=>M.Pk.mk (pk i) (ps i) (pa i) (pb i) (pc i) (pd i)) m k).2)) (m:=m) z5 (show (M.Gd.aln (M.Gd.mk w ht s v0 v1 d0 d1 r) x (M.Sc.mk (sk i) (sc i) (sq i) (sa i) (sb i)) (fun i=>M.Pk.mk (pk i) (ps i) (pa i) (pb i) (pc i) (pd i)) m)≤m from M.Gd.alS_len (g:=(M.Gd.mk w ht s v0 v1 d0 d1 r)) (x:=x) (s:=(M.Sc.mk (sk i) (sc i) (sq i) (sa i) (sb i))) (P:=(fun i=>M.Pk.mk (pk i) (ps i) (pa i) (pb i) (pc i) (pd i))) m) hk
 generalize M.ysR (M.stY (sa i) (sb i) (M.tuQ (sa i) (sb i) (fun k=>(M.Gd.alR (M.Gd.mk w ht s v0 v1 d0 d1 r) x (M.Sc.mk (sk i) (sc i) (sq i) (sa i) (sb i)) (fun i=>M.Pk.mk (pk i) (ps i) (pa i) (pb i) (pc i) (pd i)) m k).1) (fun k=>(M.Gd.alR (M.Gd.mk w ht s v0 v1 d0 d1 r) x (M.Sc.mk (sk i) (sc i) (sq i) (sa i) (sb i)) (fun i=>M.Pk.mk (pk i) (ps i) (pa i) (pb i) (pc i) (pd i)) m k).2) (M.Gd.aln (M.Gd.mk w ht s v0 v1 d0 d1 r) x (M.Sc.mk (sk i) (sc i) (sq i) (sa i) (sb i)) (fun i=>M.Pk.mk (pk i) (ps i) (pa i) (pb i) (pc i) (pd i)) m)) (M.tlen (sa i) (sb i) (fun k=>(M.Gd.alR (M.Gd.mk w ht s v0 v1 d0 d1 r) x (M.Sc.mk (sk i) (sc i) (sq i) (sa i) (sb i)) (fun i=>M.Pk.mk (pk i) (ps i) (pa i) (pb i) (pc i) (pd i)) m k).1) (fun k=>(M.Gd.alR (M.Gd.mk w ht s v0 v1 d0 d1 r) x (M.Sc.mk (sk i) (sc i) (sq i) (sa i) (sb i)) (fun i=>M.Pk.mk (pk i) (ps i) (pa i) (pb i) (pc i) (pd i)) m k).2) (M.Gd.aln (M.Gd.mk w ht s v0 v1 d0 d1 r) x (M.Sc.mk (sk i) (sc i) (sq i) (sa i) (sb i)) (fun i=>M.Pk.mk (pk i) (ps i) (pa i) (pb i) (pc i) (pd i)) m))) k=z at *
 generalize M.agK m (M.Gd.agA (M.Gd.mk w ht s v0 v1 d0 d1 r) x (fun i=>M.Sc.mk (sk i) (sc i) (sq i) (sa i) (sb i)) m (fun i=>M.Pk.mk (pk i) (ps i) (pa i) (pb i) (pc i) (pd i)) i) (M.stY (sa i) (sb i) (M.tuQ (sa i) (sb i) (fun k=>(M.Gd.alR (M.Gd.mk w ht s v0 v1 d0 d1 r) x (M.Sc.mk (sk i) (sc i) (sq i) (sa i) (sb i)) (fun i=>M.Pk.mk (pk i) (ps i) (pa i) (pb i) (pc i) (pd i)) m k).1) (fun k=>(M.Gd.alR (M.Gd.mk w ht s v0 v1 d0 d1 r) x (M.Sc.mk (sk i) (sc i) (sq i) (sa i) (sb i)) (fun i=>M.Pk.mk (pk i) (ps i) (pa i) (pb i) (pc i) (pd i)) m k).2) (M.Gd.aln (M.Gd.mk w ht s v0 v1 d0 d1 r) x (M.Sc.mk (sk i) (sc i) (sq i) (sa i) (sb i)) (fun i=>M.Pk.mk (pk i) (ps i) (pa i) (pb i) (pc i) (pd i)) m)) (M.tlen (sa i) (sb i) (fun k=>(M.Gd.alR (M.Gd.mk w ht s v0 v1 d0 d1 r) x (M.Sc.mk (sk i) (sc i) (sq i) (sa i) (sb i)) (fun i=>M.Pk.mk (pk i) (ps i) (pa i) (pb i) (pc i) (pd i)) m k).1) (fun k=>(M.Gd.alR (M.Gd.mk w ht s v0 v1 d0 d1 r) x (M.Sc.mk (sk i) (sc i) (sq i) (sa i) (sb i)) (fun i=>M.Pk.mk (pk i) (ps i) (pa i) (pb i) (pc i) (pd i)) m k).2) (M.Gd.aln (M.Gd.mk w ht s v0 v1 d0 d1 r) x (M.Sc.mk (sk i) (sc i) (sq i) (sa i) (sb i)) (fun i=>M.Pk.mk (pk i) (ps i) (pa i) (pb i) (pc i) (pd i)) m))) k=u at *
 have r1:R64 ((m:Int)-z.2.2):=by unfold R64; omega
 by_cases c:u<0
 ·simp [c,r1,hi,hkk,ha,hn,hn2,hm]
  repeat' apply And.intro
  all_goals first | omega | exact hP | exact hs
 ·by_cases c2:(m:Int)-z.2.2<u
  ·simp [c,c2,r1,hi,hkk,ha,hn,hn2,hm]
   repeat' apply And.intro
   all_goals first | omega | exact hP | exact hs
  ·simp [c,c2,r1,hi,hkk,ha,hn,hn2,hm]
   repeat' apply And.intro
   all_goals first | omega | exact hP | exact hs
theorem t35r (w ht s v0 v1 d0 d1 r:Int) (ns:Nat) (x:Nat→Int) (n:Nat) (sk sc sq sa sb:Nat→Int) (m:Nat) (pk ps pa pb pc pd:Nat→Int) (i:Nat) {F:Fence} (hF:FOK F) (hr:F.round=none) (Y:YEnv PP YS.none):∀ Q A H nx,rangeT false Try.f35.ntmps 0 (rfFn (blkAt 4 Try.f35)) 100 j100 (lp35r w ht s v0 v1 d0 d1 r ns x n sk sc sq sa sb m pk ps pa pb pc pd i) (fun _ _ _=>()) Q A H nx→WPS Y F Try.f35.ntmps 0 (.block 4 (blkAt 4 Try.f35)) Q A H nx :=
 rangeW (E:=[]) (.nil) (O:=[]) (.nil) (ck:=true) (L:=[0,1,2,3,4,7,8,9,10,11,12,14,15,17,18,19,21,30,32,33,34,35,40,41,42,43,44,54,63,65,75]) (f:=Try.f35) (m:=0) (id:=4) (l:=(lp35r w ht s v0 v1 d0 d1 r ns x n sk sc sq sa sb m pk ps pa pb pc pd i)) (LI:=[]) Y hF hr i100 (by kernel_rfl) (fun _ _=>by kernel_rfl) (by kernel_rfl) (fun _=>.nil) (fun _=>.nil) (by
  rintro ⟨⟩ k hk hp
  exact Hold.of (q35r w ht s v0 v1 d0 d1 r ns x n sk sc sq sa sb m pk ps pa pb pc pd i k) (bq35r w ht s v0 v1 d0 d1 r ns x n sk sc sq sa sb m pk ps pa pb pc pd i k ((ceq35r w ht s v0 v1 d0 d1 r ns x n sk sc sq sa sb m pk ps pa pb pc pd i k).mp hk) ((peq35r w ht s v0 v1 d0 d1 r ns x n sk sc sq sa sb m pk ps pa pb pc pd i k).mp hp)))
def lp35 (w ht s v0 v1 d0 d1 r:Int) (ns:Nat) (x:Nat→Int) (n:Nat) (sk sc sq sa sb:Nat→Int) (m:Nat) (pk ps pa pb pc pd:Nat→Int):LoopS where
 ι:=Nat
 β:=Unit
 pre i:=i≤n∧M.Gd.ok (M.Gd.mk w ht s v0 v1 d0 d1 r)∧M.Gd.all (M.Gd.mk w ht s v0 v1 d0 d1 r) ns x∧ns≤64∧n≤256∧(∀ i,i<n→M.Gd.Sok (M.Gd.mk w ht s v0 v1 d0 d1 r) ((fun i=>M.Sc.mk (sk i) (sc i) (sq i) (sa i) (sb i)) i))∧(∀ i,i<m→M.Pk.Vd ns ((fun i=>M.Pk.mk (pk i) (ps i) (pa i) (pb i) (pc i) (pd i)) i))∧m≤64
 μ i:=n-i
 next i _ _ _:=i+1
 out _:=()
 early _:=false
 SA i:=[(7,.ptr 0 0),(10,.ptr 1 0),(12,.ptr 2 0),(32,.sl 5 n (fun j=>[SI (sk j),SI (sc j),SI (sq j),SI (sa j),SI (sb j)])),(33,SI n),(34,SI i)]
 SH i:=[(0,.cells [.sl 6 m (fun j=>[SI (pk j),SI (ps j),SI (pa j),SI (pb j),SI (pc j),SI (pd j)])]),(1,.cells [SI w,SI ht,SI s,SI v0,SI v1,SI d0,SI d1,SI r,.sl 1 ns (fun k=>[SI (x k)]),SI 0]),(2,.cells [SI (M.Gd.agA (M.Gd.mk w ht s v0 v1 d0 d1 r) x (fun i=>M.Sc.mk (sk i) (sc i) (sq i) (sa i) (sb i)) m (fun i=>M.Pk.mk (pk i) (ps i) (pa i) (pb i) (pc i) (pd i)) i)])]
 n0:=3
 NA _:=[(12,.ptr 0 0)]
 NH _:=[(0,.cells [SI (M.Gd.agA (M.Gd.mk w ht s v0 v1 d0 d1 r) x (fun i=>M.Sc.mk (sk i) (sc i) (sq i) (sa i) (sb i)) m (fun i=>M.Pk.mk (pk i) (ps i) (pa i) (pb i) (pc i) (pd i)) n)])]
 n1:=1
 RA _:=[]
 RH _:=[]
def Rq35 (w ht s v0 v1 d0 d1 r:Int) (ns:Nat) (x:Nat→Int) (n:Nat) (sk sc sq sa sb:Nat→Int) (m:Nat) (pk ps pa pb pc pd:Nat→Int) (i:Nat):Prop:=(fun (z8 z13 z17:Int) (z1 z15 z18:Nat) (z3:Nat→Int) (z0:Nat→Int × Int) (z4:Nat→List SV) (z2 z6 z7 z11:Prop)=>(fun (z16:Int) (z10:List (Int × Int × Int)) (z5 z12 z14:Nat) (z9 z19:Prop)=>(fun (z20 z21:Prop)=>(decide (z8<z13)=true→z17≤z8∧z8<z13∧z14<n∧((!decide (sk z14=(1:Int)))=true→R64 z16∧z21∧n-z12<n-i∧()=()∧z7∧z13=z13∧z20∧z6∧w=w∧ht=ht∧s=s∧v0=v0∧v1=v1∧d0=d0∧d1=d1∧r=r∧z11∧z17=z17∧z3 i=z3 z12∧True)∧((!decide (sk z14=(1:Int)))=false→(z15≤m∧z19)∧(z7∧z13=z13∧z8=z8∧z9∧z6∧(↑m:Int)=(↑m:Int)∧z17=(↑z15:Int)∧z6∧w=w∧ht=ht∧s=s∧v0=v0∧v1=v1∧d0=d0∧d1=d1∧r=r∧z11∧z17=z17∧z3 i=z3 i∧sk z14=sk i∧sc z14=sc i∧sq z14=sq i∧sa z14=sa i∧sb z14=sb i∧z9∧True)∧(false=false→z15+z1≤z1∧(∀ (k:Nat),k<z1→(z0 (z15+k)).1=cI z4 z15 k∧(z0 (z15+k)).2=cI z4 (z15+z18) k)∧z19∧(z7∧z13=z13∧z8=z8∧z18=z18∧z15=z15∧(∀ (q:Nat),q<z18→sa i=sa i∧sb i=sb i)∧z18=z18∧z15=z15∧(∀ (q:Nat),q<z18→z1=z1∧∀ (k:Nat),k<z1→cI z4 z15 k=(z0 k).1∧cI z4 z18 k=(z0 k).2)∧z6∧w=w∧ht=ht∧s=s∧v0=v0∧v1=v1∧d0=d0∧d1=d1∧r=r∧z11∧z17=z17∧z3 i=M.agK m (z3 i) z10 z15∧True)∧((∀ (k:Nat),k<z1→(z0 k).1=(z0 k).1∧(z0 k).2=(z0 k).2)∧z17≤sa i∧sa i≤sb i∧sb i≤(1000000000:Int)∧z1≤(64:Nat)∧z5=z5∧∀ (k:Nat),k<z5→[SV.agg [SV.int IntKind.i64 (M.ysR (M.stY (sa i) (sb i) (M.tuQ (sa i) (sb i) (fun k=>(M.Gd.alR (M.Gd.mk w ht s v0 v1 d0 d1 r) x (M.Sc.mk (sk i) (sc i) (sq i) (sa i) (sb i)) (fun i=>M.Pk.mk (pk i) (ps i) (pa i) (pb i) (pc i) (pd i)) m k).1) (fun k=>(M.Gd.alR (M.Gd.mk w ht s v0 v1 d0 d1 r) x (M.Sc.mk (sk i) (sc i) (sq i) (sa i) (sb i)) (fun i=>M.Pk.mk (pk i) (ps i) (pa i) (pb i) (pc i) (pd i)) m k).2) (M.Gd.aln (M.Gd.mk w ht s v0 v1 d0 d1 r) x (M.Sc.mk (sk i) (sc i) (sq i) (sa i) (sb i)) (fun i=>M.Pk.mk (pk i) (ps i) (pa i) (pb i) (pc i) (pd i)) m)) (M.tlen (sa i) (sb i) (fun k=>(M.Gd.alR (M.Gd.mk w ht s v0 v1 d0 d1 r) x (M.Sc.mk (sk i) (sc i) (sq i) (sa i) (sb i)) (fun i=>M.Pk.mk (pk i) (ps i) (pa i) (pb i) (pc i) (pd i)) m k).1) (fun k=>(M.Gd.alR (M.Gd.mk w ht s v0 v1 d0 d1 r) x (M.Sc.mk (sk i) (sc i) (sq i) (sa i) (sb i)) (fun i=>M.Pk.mk (pk i) (ps i) (pa i) (pb i) (pc i) (pd i)) m k).2) (M.Gd.aln (M.Gd.mk w ht s v0 v1 d0 d1 r) x (M.Sc.mk (sk i) (sc i) (sq i) (sa i) (sb i)) (fun i=>M.Pk.mk (pk i) (ps i) (pa i) (pb i) (pc i) (pd i)) m))) k).1,SV.int IntKind.i64 (M.ysR (M.stY (sa i) (sb i) (M.tuQ (sa i) (sb i) (fun k=>(M.Gd.alR (M.Gd.mk w ht s v0 v1 d0 d1 r) x (M.Sc.mk (sk i) (sc i) (sq i) (sa i) (sb i)) (fun i=>M.Pk.mk (pk i) (ps i) (pa i) (pb i) (pc i) (pd i)) m k).1) (fun k=>(M.Gd.alR (M.Gd.mk w ht s v0 v1 d0 d1 r) x (M.Sc.mk (sk i) (sc i) (sq i) (sa i) (sb i)) (fun i=>M.Pk.mk (pk i) (ps i) (pa i) (pb i) (pc i) (pd i)) m k).2) (M.Gd.aln (M.Gd.mk w ht s v0 v1 d0 d1 r) x (M.Sc.mk (sk i) (sc i) (sq i) (sa i) (sb i)) (fun i=>M.Pk.mk (pk i) (ps i) (pa i) (pb i) (pc i) (pd i)) m)) (M.tlen (sa i) (sb i) (fun k=>(M.Gd.alR (M.Gd.mk w ht s v0 v1 d0 d1 r) x (M.Sc.mk (sk i) (sc i) (sq i) (sa i) (sb i)) (fun i=>M.Pk.mk (pk i) (ps i) (pa i) (pb i) (pc i) (pd i)) m k).1) (fun k=>(M.Gd.alR (M.Gd.mk w ht s v0 v1 d0 d1 r) x (M.Sc.mk (sk i) (sc i) (sq i) (sa i) (sb i)) (fun i=>M.Pk.mk (pk i) (ps i) (pa i) (pb i) (pc i) (pd i)) m k).2) (M.Gd.aln (M.Gd.mk w ht s v0 v1 d0 d1 r) x (M.Sc.mk (sk i) (sc i) (sq i) (sa i) (sb i)) (fun i=>M.Pk.mk (pk i) (ps i) (pa i) (pb i) (pc i) (pd i)) m))) k).2.1],SV.int IntKind.i64 (M.ysR (M.stY (sa i) (sb i) (M.tuQ (sa i) (sb i) (fun k=>(M.Gd.alR (M.Gd.mk w ht s v0 v1 d0 d1 r) x (M.Sc.mk (sk i) (sc i) (sq i) (sa i) (sb i)) (fun i=>M.Pk.mk (pk i) (ps i) (pa i) (pb i) (pc i) (pd i)) m k).1) (fun k=>(M.Gd.alR (M.Gd.mk w ht s v0 v1 d0 d1 r) x (M.Sc.mk (sk i) (sc i) (sq i) (sa i) (sb i)) (fun i=>M.Pk.mk (pk i) (ps i) (pa i) (pb i) (pc i) (pd i)) m k).2) (M.Gd.aln (M.Gd.mk w ht s v0 v1 d0 d1 r) x (M.Sc.mk (sk i) (sc i) (sq i) (sa i) (sb i)) (fun i=>M.Pk.mk (pk i) (ps i) (pa i) (pb i) (pc i) (pd i)) m)) (M.tlen (sa i) (sb i) (fun k=>(M.Gd.alR (M.Gd.mk w ht s v0 v1 d0 d1 r) x (M.Sc.mk (sk i) (sc i) (sq i) (sa i) (sb i)) (fun i=>M.Pk.mk (pk i) (ps i) (pa i) (pb i) (pc i) (pd i)) m k).1) (fun k=>(M.Gd.alR (M.Gd.mk w ht s v0 v1 d0 d1 r) x (M.Sc.mk (sk i) (sc i) (sq i) (sa i) (sb i)) (fun i=>M.Pk.mk (pk i) (ps i) (pa i) (pb i) (pc i) (pd i)) m k).2) (M.Gd.aln (M.Gd.mk w ht s v0 v1 d0 d1 r) x (M.Sc.mk (sk i) (sc i) (sq i) (sa i) (sb i)) (fun i=>M.Pk.mk (pk i) (ps i) (pa i) (pb i) (pc i) (pd i)) m))) k).2.2]=[SV.agg [SV.int IntKind.i64 (M.ysR (M.stY (sa i) (sb i) (M.tuQ (sa i) (sb i) (fun k=>(M.Gd.alR (M.Gd.mk w ht s v0 v1 d0 d1 r) x (M.Sc.mk (sk i) (sc i) (sq i) (sa i) (sb i)) (fun i=>M.Pk.mk (pk i) (ps i) (pa i) (pb i) (pc i) (pd i)) m k).1) (fun k=>(M.Gd.alR (M.Gd.mk w ht s v0 v1 d0 d1 r) x (M.Sc.mk (sk i) (sc i) (sq i) (sa i) (sb i)) (fun i=>M.Pk.mk (pk i) (ps i) (pa i) (pb i) (pc i) (pd i)) m k).2) (M.Gd.aln (M.Gd.mk w ht s v0 v1 d0 d1 r) x (M.Sc.mk (sk i) (sc i) (sq i) (sa i) (sb i)) (fun i=>M.Pk.mk (pk i) (ps i) (pa i) (pb i) (pc i) (pd i)) m)) (M.tlen (sa i) (sb i) (fun k=>(M.Gd.alR (M.Gd.mk w ht s v0 v1 d0 d1 r) x (M.Sc.mk (sk i) (sc i) (sq i) (sa i) (sb i)) (fun i=>M.Pk.mk (pk i) (ps i) (pa i) (pb i) (pc i) (pd i)) m k).1) (fun k=>(M.Gd.alR (M.Gd.mk w ht s v0 v1 d0 d1 r) x (M.Sc.mk (sk i) (sc i) (sq i) (sa i) (sb i)) (fun i=>M.Pk.mk (pk i) (ps i) (pa i) (pb i) (pc i) (pd i)) m k).2) (M.Gd.aln (M.Gd.mk w ht s v0 v1 d0 d1 r) x (M.Sc.mk (sk i) (sc i) (sq i) (sa i) (sb i)) (fun i=>M.Pk.mk (pk i) (ps i) (pa i) (pb i) (pc i) (pd i)) m))) k).1,SV.int IntKind.i64 (M.ysR (M.stY (sa i) (sb i) (M.tuQ (sa i) (sb i) (fun k=>(M.Gd.alR (M.Gd.mk w ht s v0 v1 d0 d1 r) x (M.Sc.mk (sk i) (sc i) (sq i) (sa i) (sb i)) (fun i=>M.Pk.mk (pk i) (ps i) (pa i) (pb i) (pc i) (pd i)) m k).1) (fun k=>(M.Gd.alR (M.Gd.mk w ht s v0 v1 d0 d1 r) x (M.Sc.mk (sk i) (sc i) (sq i) (sa i) (sb i)) (fun i=>M.Pk.mk (pk i) (ps i) (pa i) (pb i) (pc i) (pd i)) m k).2) (M.Gd.aln (M.Gd.mk w ht s v0 v1 d0 d1 r) x (M.Sc.mk (sk i) (sc i) (sq i) (sa i) (sb i)) (fun i=>M.Pk.mk (pk i) (ps i) (pa i) (pb i) (pc i) (pd i)) m)) (M.tlen (sa i) (sb i) (fun k=>(M.Gd.alR (M.Gd.mk w ht s v0 v1 d0 d1 r) x (M.Sc.mk (sk i) (sc i) (sq i) (sa i) (sb i)) (fun i=>M.Pk.mk (pk i) (ps i) (pa i) (pb i) (pc i) (pd i)) m k).1) (fun k=>(M.Gd.alR (M.Gd.mk w ht s v0 v1 d0 d1 r) x (M.Sc.mk (sk i) (sc i) (sq i) (sa i) (sb i)) (fun i=>M.Pk.mk (pk i) (ps i) (pa i) (pb i) (pc i) (pd i)) m k).2) (M.Gd.aln (M.Gd.mk w ht s v0 v1 d0 d1 r) x (M.Sc.mk (sk i) (sc i) (sq i) (sa i) (sb i)) (fun i=>M.Pk.mk (pk i) (ps i) (pa i) (pb i) (pc i) (pd i)) m))) k).2.1],SV.int IntKind.i64 (M.ysR (M.stY (sa i) (sb i) (M.tuQ (sa i) (sb i) (fun k=>(M.Gd.alR (M.Gd.mk w ht s v0 v1 d0 d1 r) x (M.Sc.mk (sk i) (sc i) (sq i) (sa i) (sb i)) (fun i=>M.Pk.mk (pk i) (ps i) (pa i) (pb i) (pc i) (pd i)) m k).1) (fun k=>(M.Gd.alR (M.Gd.mk w ht s v0 v1 d0 d1 r) x (M.Sc.mk (sk i) (sc i) (sq i) (sa i) (sb i)) (fun i=>M.Pk.mk (pk i) (ps i) (pa i) (pb i) (pc i) (pd i)) m k).2) (M.Gd.aln (M.Gd.mk w ht s v0 v1 d0 d1 r) x (M.Sc.mk (sk i) (sc i) (sq i) (sa i) (sb i)) (fun i=>M.Pk.mk (pk i) (ps i) (pa i) (pb i) (pc i) (pd i)) m)) (M.tlen (sa i) (sb i) (fun k=>(M.Gd.alR (M.Gd.mk w ht s v0 v1 d0 d1 r) x (M.Sc.mk (sk i) (sc i) (sq i) (sa i) (sb i)) (fun i=>M.Pk.mk (pk i) (ps i) (pa i) (pb i) (pc i) (pd i)) m k).1) (fun k=>(M.Gd.alR (M.Gd.mk w ht s v0 v1 d0 d1 r) x (M.Sc.mk (sk i) (sc i) (sq i) (sa i) (sb i)) (fun i=>M.Pk.mk (pk i) (ps i) (pa i) (pb i) (pc i) (pd i)) m k).2) (M.Gd.aln (M.Gd.mk w ht s v0 v1 d0 d1 r) x (M.Sc.mk (sk i) (sc i) (sq i) (sa i) (sb i)) (fun i=>M.Pk.mk (pk i) (ps i) (pa i) (pb i) (pc i) (pd i)) m))) k).2.2])∧(z19→R64 z16∧z21∧n-z12<n-i∧()=()∧z7∧z13=z13∧z20∧z6∧w=w∧ht=ht∧s=s∧v0=v0∧v1=v1∧d0=d0∧d1=d1∧r=r∧z11∧z17=z17∧M.agK m (z3 i) z10 z5=z3 z12∧True)∧(∀ (k:Nat),k<z5→z19→False→True→false=true∧True)∧∀ (k:Nat),k<z5→z19→False→True→R64 z16∧z21∧n-z12<n-i∧()=()∧z7∧z13=z13∧z20∧False)∧(false=true→false=true∧True)))∧(decide (z8<z13)=false→false=false∧z3 i=z3 n∧True)) (z16=(↑z12:Int)) (z12≤n∧z2)) (z8+(1:Int)) (M.stY (sa i) (sb i) (M.tuQ (sa i) (sb i) (fun k=>(z0 k).1) (fun k=>(z0 k).2) z1) (M.tlen (sa i) (sb i) (fun k=>(z0 k).1) (fun k=>(z0 k).2) z1)) (M.stK (sa i) (sb i) (M.tuQ (sa i) (sb i) (fun k=>(z0 k).1) (fun k=>(z0 k).2) z1) (M.tlen (sa i) (sb i) (fun k=>(z0 k).1) (fun k=>(z0 k).2) z1)) (i+z18) (Int.toNat z8) (M.Gd.aln (M.Gd.mk w ht s v0 v1 d0 d1 r) x (M.Sc.mk (sk i) (sc i) (sq i) (sa i) (sb i)) (fun i=>M.Pk.mk (pk i) (ps i) (pa i) (pb i) (pc i) (pd i)) z15=z15) (i<n∧z2)) (↑i:Int) (↑n:Int) (0:Int) (M.Gd.aln (M.Gd.mk w ht s v0 v1 d0 d1 r) x (M.Sc.mk (sk i) (sc i) (sq i) (sa i) (sb i)) (fun i=>M.Pk.mk (pk i) (ps i) (pa i) (pb i) (pc i) (pd i)) m) (0:Nat) (1:Nat) (M.Gd.agA (M.Gd.mk w ht s v0 v1 d0 d1 r) x (fun i=>M.Sc.mk (sk i) (sc i) (sq i) (sa i) (sb i)) m (fun i=>M.Pk.mk (pk i) (ps i) (pa i) (pb i) (pc i) (pd i))) (M.Gd.alR (M.Gd.mk w ht s v0 v1 d0 d1 r) x (M.Sc.mk (sk i) (sc i) (sq i) (sa i) (sb i)) (fun i=>M.Pk.mk (pk i) (ps i) (pa i) (pb i) (pc i) (pd i)) m) (fun k=>[SV.int IntKind.i64 (M.Gd.alR (M.Gd.mk w ht s v0 v1 d0 d1 r) x (M.Sc.mk (sk i) (sc i) (sq i) (sa i) (sb i)) (fun i=>M.Pk.mk (pk i) (ps i) (pa i) (pb i) (pc i) (pd i)) m ((0:Nat)+k)).1,SV.int IntKind.i64 (M.Gd.alR (M.Gd.mk w ht s v0 v1 d0 d1 r) x (M.Sc.mk (sk i) (sc i) (sq i) (sa i) (sb i)) (fun i=>M.Pk.mk (pk i) (ps i) (pa i) (pb i) (pc i) (pd i)) m ((0:Nat)+k)).2]) (M.Gd.ok (M.Gd.mk w ht s v0 v1 d0 d1 r)∧M.Gd.all (M.Gd.mk w ht s v0 v1 d0 d1 r) ns x∧ns≤(64:Nat)∧n≤(256:Nat)∧(∀ (i:Nat),i<n→M.Gd.Sok (M.Gd.mk w ht s v0 v1 d0 d1 r) (M.Sc.mk (sk i) (sc i) (sq i) (sa i) (sb i)))∧(∀ (i:Nat),i<m→M.Pk.Vd ns (M.Pk.mk (pk i) (ps i) (pa i) (pb i) (pc i) (pd i)))∧m≤(64:Nat)) (m=m∧∀ (k:Nat),k<m→pk k=pk k∧ps k=ps k∧pa k=pa k∧pb k=pb k∧pc k=pc k∧pd k=pd k) (n=n∧∀ (k:Nat),k<n→sk k=sk k∧sc k=sc k∧sq k=sq k∧sa k=sa k∧sb k=sb k) (ns=ns∧∀ (k:Nat),k<ns→x k=x k)
theorem q35 (w ht s v0 v1 d0 d1 r:Int) (ns:Nat) (x:Nat→Int) (n:Nat) (sk sc sq sa sb:Nat→Int) (m:Nat) (pk ps pa pb pc pd:Nat→Int) (i:Nat):VL true [] [(80,pureE e80)] YS.none Try.f35 0 [0,1,2,3,4,7,8,9,10,11,12,14,15,17,18,19,21,30,32,33,34,35,40,41,42,43,44,54,63,65,75] [(2,loopT false Try.f35.ntmps 0 (lp35b w ht s v0 v1 d0 d1 r ns x n sk sc sq sa sb m pk ps pa pb pc pd i) (fun _ _ _=>(0:Nat))),(4,rangeT false Try.f35.ntmps 0 (rfFn (blkAt 4 Try.f35)) 100 j100 (lp35r w ht s v0 v1 d0 d1 r ns x n sk sc sq sa sb m pk ps pa pb pc pd i) (fun _ _ _=>()))] 0 (lp35 w ht s v0 v1 d0 d1 r ns x n sk sc sq sa sb m pk ps pa pb pc pd) (i)=Rq35 w ht s v0 v1 d0 d1 r ns x n sk sc sq sa sb m pk ps pa pb pc pd i:=by kernel_rfl
theorem peq35 (w ht s v0 v1 d0 d1 r:Int) (ns:Nat) (x:Nat→Int) (n:Nat) (sk sc sq sa sb:Nat→Int) (m:Nat) (pk ps pa pb pc pd:Nat→Int) (i:Nat):(lp35 w ht s v0 v1 d0 d1 r ns x n sk sc sq sa sb m pk ps pa pb pc pd).pre (i)=(i≤n ∧
 M.Gd.ok (M.Gd.mk w ht s v0 v1 d0 d1 r) ∧
  M.Gd.all (M.Gd.mk w ht s v0 v1 d0 d1 r) ns x ∧
   ns≤(64:Nat) ∧
    n≤(256:Nat) ∧
     (∀ (i:Nat),i<n→M.Gd.Sok (M.Gd.mk w ht s v0 v1 d0 d1 r) (M.Sc.mk (sk i) (sc i) (sq i) (sa i) (sb i))) ∧
      (∀ (i:Nat),i<m→M.Pk.Vd ns (M.Pk.mk (pk i) (ps i) (pa i) (pb i) (pc i) (pd i)))∧m≤(64:Nat)):=by kernel_rfl
theorem bq35 (w ht s v0 v1 d0 d1 r:Int) (ns:Nat) (x:Nat→Int) (n:Nat) (sk sc sq sa sb:Nat→Int) (m:Nat) (pk ps pa pb pc pd:Nat→Int) (i:Nat) (hp:i≤n ∧
 M.Gd.ok (M.Gd.mk w ht s v0 v1 d0 d1 r) ∧
  M.Gd.all (M.Gd.mk w ht s v0 v1 d0 d1 r) ns x ∧
   ns≤(64:Nat) ∧
    n≤(256:Nat) ∧
     (∀ (i:Nat),i<n→M.Gd.Sok (M.Gd.mk w ht s v0 v1 d0 d1 r) (M.Sc.mk (sk i) (sc i) (sq i) (sa i) (sb i))) ∧
      (∀ (i:Nat),i<m→M.Pk.Vd ns (M.Pk.mk (pk i) (ps i) (pa i) (pb i) (pc i) (pd i)))∧m≤(64:Nat)):Rq35 w ht s v0 v1 d0 d1 r ns x n sk sc sq sa sb m pk ps pa pb pc pd i:=by
 unfold Rq35
 dsimp -iota -proj -eta -zeta only
 obtain ⟨h1,hk,ha,hn,hn2,hs,hP,hm⟩:=id hp
 have r1:R64 ((i:Int)+1):=by unfold R64; omega
 simp only [Int.toNat_natCast,r1]
 by_cases hl:i<n
 ·have hl':(i:Int)<n:=by omega
  have hz:=hs i hl
  obtain ⟨z1,z2,z3,z4,z5,z6⟩:=id hz
  simp only at z5
  by_cases c1:sk i=1
  ·have e1:M.Gd.agA (M.Gd.mk w ht s v0 v1 d0 d1 r) x (fun i=>M.Sc.mk (sk i) (sc i) (sq i) (sa i) (sb i)) m (fun i=>M.Pk.mk (pk i) (ps i) (pa i) (pb i) (pc i) (pd i)) (i+1)=M.agK m (M.Gd.agA (M.Gd.mk w ht s v0 v1 d0 d1 r) x (fun i=>M.Sc.mk (sk i) (sc i) (sq i) (sa i) (sb i)) m (fun i=>M.Pk.mk (pk i) (ps i) (pa i) (pb i) (pc i) (pd i)) i) (M.stY (sa i) (sb i) (M.tuQ (sa i) (sb i) (fun k=>(M.Gd.alR (M.Gd.mk w ht s v0 v1 d0 d1 r) x (M.Sc.mk (sk i) (sc i) (sq i) (sa i) (sb i)) (fun i=>M.Pk.mk (pk i) (ps i) (pa i) (pb i) (pc i) (pd i)) m k).1) (fun k=>(M.Gd.alR (M.Gd.mk w ht s v0 v1 d0 d1 r) x (M.Sc.mk (sk i) (sc i) (sq i) (sa i) (sb i)) (fun i=>M.Pk.mk (pk i) (ps i) (pa i) (pb i) (pc i) (pd i)) m k).2) (M.Gd.aln (M.Gd.mk w ht s v0 v1 d0 d1 r) x (M.Sc.mk (sk i) (sc i) (sq i) (sa i) (sb i)) (fun i=>M.Pk.mk (pk i) (ps i) (pa i) (pb i) (pc i) (pd i)) m)) (M.tlen (sa i) (sb i) (fun k=>(M.Gd.alR (M.Gd.mk w ht s v0 v1 d0 d1 r) x (M.Sc.mk (sk i) (sc i) (sq i) (sa i) (sb i)) (fun i=>M.Pk.mk (pk i) (ps i) (pa i) (pb i) (pc i) (pd i)) m k).1) (fun k=>(M.Gd.alR (M.Gd.mk w ht s v0 v1 d0 d1 r) x (M.Sc.mk (sk i) (sc i) (sq i) (sa i) (sb i)) (fun i=>M.Pk.mk (pk i) (ps i) (pa i) (pb i) (pc i) (pd i)) m k).2) (M.Gd.aln (M.Gd.mk w ht s v0 v1 d0 d1 r) x (M.Sc.mk (sk i) (sc i) (sq i) (sa i) (sb i)) (fun i=>M.Pk.mk (pk i) (ps i) (pa i) (pb i) (pc i) (pd i)) m))) (M.stK (sa i) (sb i) (M.tuQ (sa i) (sb i) (fun k=>(M.Gd.alR (M.Gd.mk w ht s v0 v1 d0 d1 r) x (M.Sc.mk (sk i) (sc i) (sq i) (sa i) (sb i)) (fun i=>M.Pk.mk (pk i) (ps i) (pa i) (pb i) (pc i) (pd i)) m k).1) (fun k=>(M.Gd.alR (M.Gd.mk w ht s v0 v1 d0 d1 r) x (M.Sc.mk (sk i) (sc i) (sq i) (sa i) (sb i)) (fun i=>M.Pk.mk (pk i) (ps i) (pa i) (pb i) (pc i) (pd i)) m k).2) (M.Gd.aln (M.Gd.mk w ht s v0 v1 d0 d1 r) x (M.Sc.mk (sk i) (sc i) (sq i) (sa i) (sb i)) (fun i=>M.Pk.mk (pk i) (ps i) (pa i) (pb i) (pc i) (pd i)) m)) (M.tlen (sa i) (sb i) (fun k=>(M.Gd.alR (M.Gd.mk w ht s v0 v1 d0 d1 r) x (M.Sc.mk (sk i) (sc i) (sq i) (sa i) (sb i)) (fun i=>M.Pk.mk (pk i) (ps i) (pa i) (pb i) (pc i) (pd i)) m k).1) (fun k=>(M.Gd.alR (M.Gd.mk w ht s v0 v1 d0 d1 r) x (M.Sc.mk (sk i) (sc i) (sq i) (sa i) (sb i)) (fun i=>M.Pk.mk (pk i) (ps i) (pa i) (pb i) (pc i) (pd i)) m k).2) (M.Gd.aln (M.Gd.mk w ht s v0 v1 d0 d1 r) x (M.Sc.mk (sk i) (sc i) (sq i) (sa i) (sb i)) (fun i=>M.Pk.mk (pk i) (ps i) (pa i) (pb i) (pc i) (pd i)) m))):=M.Gd.agA_step (g:=(M.Gd.mk w ht s v0 v1 d0 d1 r)) (x:=x) (S:=(fun i=>M.Sc.mk (sk i) (sc i) (sq i) (sa i) (sb i))) (m:=m) (P:=(fun i=>M.Pk.mk (pk i) (ps i) (pa i) (pb i) (pc i) (pd i))) (i:=i) c1
   have e2:M.Gd.aln (M.Gd.mk w ht s v0 v1 d0 d1 r) x (M.Sc.mk (sk i) (sc i) (sq i) (sa i) (sb i)) (fun i=>M.Pk.mk (pk i) (ps i) (pa i) (pb i) (pc i) (pd i)) 0=0:=rfl
   have e3:M.agK m (M.Gd.agA (M.Gd.mk w ht s v0 v1 d0 d1 r) x (fun i=>M.Sc.mk (sk i) (sc i) (sq i) (sa i) (sb i)) m (fun i=>M.Pk.mk (pk i) (ps i) (pa i) (pb i) (pc i) (pd i)) i) (M.stY (sa i) (sb i) (M.tuQ (sa i) (sb i) (fun k=>(M.Gd.alR (M.Gd.mk w ht s v0 v1 d0 d1 r) x (M.Sc.mk (sk i) (sc i) (sq i) (sa i) (sb i)) (fun i=>M.Pk.mk (pk i) (ps i) (pa i) (pb i) (pc i) (pd i)) m k).1) (fun k=>(M.Gd.alR (M.Gd.mk w ht s v0 v1 d0 d1 r) x (M.Sc.mk (sk i) (sc i) (sq i) (sa i) (sb i)) (fun i=>M.Pk.mk (pk i) (ps i) (pa i) (pb i) (pc i) (pd i)) m k).2) (M.Gd.aln (M.Gd.mk w ht s v0 v1 d0 d1 r) x (M.Sc.mk (sk i) (sc i) (sq i) (sa i) (sb i)) (fun i=>M.Pk.mk (pk i) (ps i) (pa i) (pb i) (pc i) (pd i)) m)) (M.tlen (sa i) (sb i) (fun k=>(M.Gd.alR (M.Gd.mk w ht s v0 v1 d0 d1 r) x (M.Sc.mk (sk i) (sc i) (sq i) (sa i) (sb i)) (fun i=>M.Pk.mk (pk i) (ps i) (pa i) (pb i) (pc i) (pd i)) m k).1) (fun k=>(M.Gd.alR (M.Gd.mk w ht s v0 v1 d0 d1 r) x (M.Sc.mk (sk i) (sc i) (sq i) (sa i) (sb i)) (fun i=>M.Pk.mk (pk i) (ps i) (pa i) (pb i) (pc i) (pd i)) m k).2) (M.Gd.aln (M.Gd.mk w ht s v0 v1 d0 d1 r) x (M.Sc.mk (sk i) (sc i) (sq i) (sa i) (sb i)) (fun i=>M.Pk.mk (pk i) (ps i) (pa i) (pb i) (pc i) (pd i)) m))) 0=(M.Gd.agA (M.Gd.mk w ht s v0 v1 d0 d1 r) x (fun i=>M.Sc.mk (sk i) (sc i) (sq i) (sa i) (sb i)) m (fun i=>M.Pk.mk (pk i) (ps i) (pa i) (pb i) (pc i) (pd i)) i):=rfl
   have hle:(M.Gd.aln (M.Gd.mk w ht s v0 v1 d0 d1 r) x (M.Sc.mk (sk i) (sc i) (sq i) (sa i) (sb i)) (fun i=>M.Pk.mk (pk i) (ps i) (pa i) (pb i) (pc i) (pd i)) m)≤m:=M.Gd.alS_len (g:=(M.Gd.mk w ht s v0 v1 d0 d1 r)) (x:=x) (s:=(M.Sc.mk (sk i) (sc i) (sq i) (sa i) (sb i))) (P:=(fun i=>M.Pk.mk (pk i) (ps i) (pa i) (pb i) (pc i) (pd i))) m
   simp only [e1,e2,e3]
   clear e1 e2 e3
   simp [hl,hl',c1,hk,ha,hn,hn2,hm,cI,asI]
   repeat' apply And.intro
   all_goals first | omega | exact hP | exact hs | (simp only [c1] at hle; omega) | exact fun _ _=>⟨⟨by omega,hs,hP⟩,by omega⟩
  ·have e1:=M.Gd.agA_stay (g:=(M.Gd.mk w ht s v0 v1 d0 d1 r)) (x:=x) (S:=(fun i=>M.Sc.mk (sk i) (sc i) (sq i) (sa i) (sb i))) (m:=m) (P:=(fun i=>M.Pk.mk (pk i) (ps i) (pa i) (pb i) (pc i) (pd i))) (i:=i) c1
   simp only [e1]
   simp [hl,hl',c1,hk,ha,hn,hn2,hm]
   repeat' apply And.intro
   all_goals first | omega | exact hP | exact hs
 ·have e:i=n:=by omega
  subst e
  simp
theorem t35 (w ht s v0 v1 d0 d1 r:Int) (ns:Nat) (x:Nat→Int) (n:Nat) (sk sc sq sa sb:Nat→Int) (m:Nat) (pk ps pa pb pc pd:Nat→Int) {F:Fence} (hF:FOK F) (hr:F.round=none) (Y:YEnv PP YS.none):∀ Q A H nx,loopT false Try.f35.ntmps 0 (lp35 w ht s v0 v1 d0 d1 r ns x n sk sc sq sa sb m pk ps pa pb pc pd) (fun _ _ _=>(0:Nat)) Q A H nx→WPS Y F Try.f35.ntmps 0 (.block 0 (blkAt 0 Try.f35)) Q A H nx :=
 loopW (E:=[]) (.nil) (O:=[(80,pureE e80)]) (.cons (pureE_ok s80) (.nil)) (ck:=true) (L:=[0,1,2,3,4,7,8,9,10,11,12,14,15,17,18,19,21,30,32,33,34,35,40,41,42,43,44,54,63,65,75]) (f:=Try.f35) (m:=0) (id:=0) (l:=(lp35 w ht s v0 v1 d0 d1 r ns x n sk sc sq sa sb m pk ps pa pb pc pd)) (LI:=fun (i:Nat)=>[(2,loopT false Try.f35.ntmps 0 (lp35b w ht s v0 v1 d0 d1 r ns x n sk sc sq sa sb m pk ps pa pb pc pd i) (fun _ _ _=>(0:Nat))),(4,rangeT false Try.f35.ntmps 0 (rfFn (blkAt 4 Try.f35)) 100 j100 (lp35r w ht s v0 v1 d0 d1 r ns x n sk sc sq sa sb m pk ps pa pb pc pd i) (fun _ _ _=>()))]) Y hF (by kernel_rfl) (fun (i:Nat)=>.cons (by kernel_rfl) (t35b w ht s v0 v1 d0 d1 r ns x n sk sc sq sa sb m pk ps pa pb pc pd i hF Y) (.cons (by kernel_rfl) (t35r w ht s v0 v1 d0 d1 r ns x n sk sc sq sa sb m pk ps pa pb pc pd i hF hr Y) (.nil))) (by
  rintro i hp
  exact Hold.of (q35 w ht s v0 v1 d0 d1 r ns x n sk sc sq sa sb m pk ps pa pb pc pd i) (bq35 w ht s v0 v1 d0 d1 r ns x n sk sc sq sa sb m pk ps pa pb pc pd i ((peq35 w ht s v0 v1 d0 d1 r ns x n sk sc sq sa sb m pk ps pa pb pc pd i).mp hp)))
def e35:List SV→Option (List Prop × SV)
 | [.agg [.int .i64 w,.int .i64 ht,.int .i64 s,.int .i64 v0,.int .i64 v1,.int .i64 d0,.int .i64 d1,.int .i64 r],.sl 1 ns g_1,.sl 5 n g_2,.sl 6 m g_3]=>some ([Row 1 ns g_1,Row 5 n g_2,Row 6 m g_3,ns≤100000,n≤9223372036854775807,m≤100000],.tup [SI (if (M.Gd.ckE (M.Gd.mk w ht s v0 v1 d0 d1 r) ns (cI g_1 0) n (fun i=>M.Sc.mk ((cI g_2 0) i) ((cI g_2 1) i) ((cI g_2 2) i) ((cI g_2 3) i) ((cI g_2 4) i)) m (fun i=>M.Pk.mk ((cI g_3 0) i) ((cI g_3 1) i) ((cI g_3 2) i) ((cI g_3 3) i) ((cI g_3 4) i) ((cI g_3 5) i)) 0)=0 then M.Gd.agA (M.Gd.mk w ht s v0 v1 d0 d1 r) (cI g_1 0) (fun i=>M.Sc.mk ((cI g_2 0) i) ((cI g_2 1) i) ((cI g_2 2) i) ((cI g_2 3) i) ((cI g_2 4) i)) m (fun i=>M.Pk.mk ((cI g_3 0) i) ((cI g_3 1) i) ((cI g_3 2) i) ((cI g_3 3) i) ((cI g_3 4) i) ((cI g_3 5) i)) n else 0),SI (M.Gd.ckE (M.Gd.mk w ht s v0 v1 d0 d1 r) ns (cI g_1 0) n (fun i=>M.Sc.mk ((cI g_2 0) i) ((cI g_2 1) i) ((cI g_2 2) i) ((cI g_2 3) i) ((cI g_2 4) i)) m (fun i=>M.Pk.mk ((cI g_3 0) i) ((cI g_3 1) i) ((cI g_3 2) i) ((cI g_3 3) i) ((cI g_3 4) i) ((cI g_3 5) i)) 0)])
 | _=>none
def Rr35 (w ht s v0 v1 d0 d1 r:Int) (ns:Nat) (x:Nat→Int) (n:Nat) (sk sc sq sa sb:Nat→Int) (m:Nat) (pk ps pa pb pc pd:Nat→Int):Prop:=(fun (z4:Int) (z5:M.Gd) (z2 z3 z6:Prop)=>(fun (z0:Int) (z1:Nat→Int)=>z6∧z3∧z2∧ns≤(100000:Nat)∧n≤(9223372036854775807:Nat)∧m≤(100000:Nat)∧((!decide (z0=z4))=true→(z4=if z0=z4 then z1 n else z4)∧z0=z0)∧((!decide (z0=z4))=false→((0:Nat)≤n∧M.Gd.ok z5∧M.Gd.all z5 ns x∧ns≤(64:Nat)∧n≤(256:Nat)∧(∀ (i:Nat),i<n→M.Gd.Sok z5 (M.Sc.mk (sk i) (sc i) (sq i) (sa i) (sb i)))∧(∀ (i:Nat),i<m→M.Pk.Vd ns (M.Pk.mk (pk i) (ps i) (pa i) (pb i) (pc i) (pd i)))∧m≤(64:Nat))∧((n=n∧z3)∧(↑n:Int)=(↑n:Int)∧z4=(↑(0:Nat):Int)∧(m=m∧z2)∧w=w∧ht=ht∧s=s∧v0=v0∧v1=v1∧d0=d0∧d1=d1∧r=r∧(ns=ns∧z6)∧z4=z4∧(- 1:Int)=z1 (0:Nat)∧True)∧(false=false→(z1 n=if z0=z4 then z1 n else z4)∧z4=z0)∧(false=true→False))) (M.Gd.ckE z5 ns x n (fun i=>M.Sc.mk (sk i) (sc i) (sq i) (sa i) (sb i)) m (fun i=>M.Pk.mk (pk i) (ps i) (pa i) (pb i) (pc i) (pd i)) z4) (M.Gd.agA z5 x (fun i=>M.Sc.mk (sk i) (sc i) (sq i) (sa i) (sb i)) m (fun i=>M.Pk.mk (pk i) (ps i) (pa i) (pb i) (pc i) (pd i)))) (0:Int) (M.Gd.mk w ht s v0 v1 d0 d1 r) (∀ (k:Nat),k<m→pk k=pk k∧ps k=ps k∧pa k=pa k∧pb k=pb k∧pc k=pc k∧pd k=pd k) (∀ (k:Nat),k<n→sk k=sk k∧sc k=sc k∧sq k=sq k∧sa k=sa k∧sb k=sb k) (∀ (k:Nat),k<ns→x k=x k)
theorem r35 (w ht s v0 v1 d0 d1 r:Int) (ns:Nat) (x:Nat→Int) (n:Nat) (sk sc sq sa sb:Nat→Int) (m:Nat) (pk ps pa pb pc pd:Nat→Int):V true [] [(59,pureE e59w)] Try.f35 [0,1,2,3,4,7,8,9,10,11,12,14,15,17,18,19,21,30,32,33,34,35,40,41,42,43,44,54,63,65,75] [(0,loopT false Try.f35.ntmps 0 (lp35 w ht s v0 v1 d0 d1 r ns x n sk sc sq sa sb m pk ps pa pb pc pd) (fun _ _ _=>(0:Nat)))] [.agg [SI w,SI ht,SI s,SI v0,SI v1,SI d0,SI d1,SI r],.sl 1 ns (fun k=>[SI (x k)]),.sl 5 n (fun k=>[SI (sk k),SI (sc k),SI (sq k),SI (sa k),SI (sb k)]),.sl 6 m (fun k=>[SI (pk k),SI (ps k),SI (pa k),SI (pb k),SI (pc k),SI (pd k)])] (.tup [SI (if (M.Gd.ckE (M.Gd.mk w ht s v0 v1 d0 d1 r) ns x n (fun i=>M.Sc.mk (sk i) (sc i) (sq i) (sa i) (sb i)) m (fun i=>M.Pk.mk (pk i) (ps i) (pa i) (pb i) (pc i) (pd i)) 0)=0 then M.Gd.agA (M.Gd.mk w ht s v0 v1 d0 d1 r) x (fun i=>M.Sc.mk (sk i) (sc i) (sq i) (sa i) (sb i)) m (fun i=>M.Pk.mk (pk i) (ps i) (pa i) (pb i) (pc i) (pd i)) n else 0),SI (M.Gd.ckE (M.Gd.mk w ht s v0 v1 d0 d1 r) ns x n (fun i=>M.Sc.mk (sk i) (sc i) (sq i) (sa i) (sb i)) m (fun i=>M.Pk.mk (pk i) (ps i) (pa i) (pb i) (pc i) (pd i)) 0)])=Rr35 w ht s v0 v1 d0 d1 r ns x n sk sc sq sa sb m pk ps pa pb pc pd:=by kernel_rfl
theorem br35 (w ht s v0 v1 d0 d1 r:Int) (ns:Nat) (x:Nat→Int) (n:Nat) (sk sc sq sa sb:Nat→Int) (m:Nat) (pk ps pa pb pc pd:Nat→Int) (hp:(ns≤100000)∧(n≤9223372036854775807)∧(m≤100000)∧AllP []):Rr35 w ht s v0 v1 d0 d1 r ns x n sk sc sq sa sb m pk ps pa pb pc pd:=by
 unfold Rr35
 dsimp -iota -proj -eta -zeta only
 obtain ⟨h1,h2,h3,-⟩:=id hp
 have e0:M.Gd.agA (M.Gd.mk w ht s v0 v1 d0 d1 r) x (fun i=>M.Sc.mk (sk i) (sc i) (sq i) (sa i) (sb i)) m (fun i=>M.Pk.mk (pk i) (ps i) (pa i) (pb i) (pc i) (pd i)) 0 = -1:=rfl
 simp only [e0]
 by_cases c:(M.Gd.ckE (M.Gd.mk w ht s v0 v1 d0 d1 r) ns x n (fun i=>M.Sc.mk (sk i) (sc i) (sq i) (sa i) (sb i)) m (fun i=>M.Pk.mk (pk i) (ps i) (pa i) (pb i) (pc i) (pd i)) 0)=0
 ·obtain ⟨hk,hn,ha,⟨hn2,hs⟩,hm,hP,f1,f2⟩:=M.Gd.ckE_ok.1 c
  simp [c,h1,h2,h3,hk,hn,ha,hn2,hm]
  try exact ⟨hs,hP⟩
 ·simp [c,h1,h2,h3]
theorem s35:PureOK PP 35 e35:=by
 intro xs ps res h hp
 unfold e35 at h
 split at h
 ·rename_i w ht s v0 v1 d0 d1 r ns g_1 n g_2 m g_3
  cases h
  simp only [AllP.cons] at hp
  obtain ⟨Hg_1,Hg_2,Hg_3,hp⟩:=hp
  exact Spec.args (enterH (Hold.of (r35 w ht s v0 v1 d0 d1 r ns (cI g_1 0) n (cI g_2 0) (cI g_2 1) (cI g_2 2) (cI g_2 3) (cI g_2 4) m (cI g_3 0) (cI g_3 1) (cI g_3 2) (cI g_3 3) (cI g_3 4) (cI g_3 5)) (br35 w ht s v0 v1 d0 d1 r ns (cI g_1 0) n (cI g_2 0) (cI g_2 1) (cI g_2 2) (cI g_2 3) (cI g_2 4) m (cI g_3 0) (cI g_3 1) (cI g_3 2) (cI g_3 3) (cI g_3 4) (cI g_3 5) hp)) (.nil) (.cons (pureE_ok s59w) (.nil)) (k:=35) (by kernel_rfl) (by kernel_rfl) (fun Y=>.cons (by kernel_rfl) (t35 w ht s v0 v1 d0 d1 r ns (cI g_1 0) n (cI g_2 0) (cI g_2 1) (cI g_2 2) (cI g_2 3) (cI g_2 4) m (cI g_3 0) (cI g_3 1) (cI g_3 2) (cI g_3 3) (cI g_3 4) (cI g_3 5) FOK.wide rfl Y) (.nil))) (.cons (.refl _) (.cons (.row Hg_1 fun _=>rfl) (.cons (.row Hg_2 fun _=>rfl) (.cons (.row Hg_3 fun _=>rfl) .nil))))
 ·cases h
end Go.Proofs.Ytoncoofmijjgeaa.Sep
