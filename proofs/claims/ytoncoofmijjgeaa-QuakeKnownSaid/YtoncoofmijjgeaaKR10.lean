/-
  Texts of one seat, joined. No condition. (This text proves no statement by itself.)
-/
import Derived.Test.YtoncoofmijjgeaaKR5
import Derived.Test.YtoncoofmijjgeaaKN1
namespace Go.Proofs.Ytoncoofmijjgeaa.Sep
open Go
set_option linter.unusedVariables false
set_option linter.unusedSimpArgs false
--#def LN(i) XX
def lp60 (w ht s v0 v1 d0 d1 r:Int) (ns:Nat) (x:Nat→Int) (f:Int) (n:Nat) (sk sc sq sa sb:Nat→Int) (m:Nat) (pk ps pa pb pc pd:Nat→Int):LoopS where
 ι:=Nat
 β:=Unit
 pre i:=i≤n∧M.Gd.Ck (M.Gd.mk w ht s v0 v1 d0 d1 r) ns x n (fun i=>M.Sc.mk (sk i) (sc i) (sq i) (sa i) (sb i)) m (fun i=>M.Pk.mk (pk i) (ps i) (pa i) (pb i) (pc i) (pd i)) f
 μ i:=n-i
 next i _ _ _:=i+1
 out _:=()
 early _:=false
 SA i:=[(2,.sl 6 m (fun j=>[SI (pk j),SI (ps j),SI (pa j),SI (pb j),SI (pc j),SI (pd j)])),(3,.ptr 0 0),(7,.vec 1 5 0 (M.Gd.leN (M.Gd.mk w ht s v0 v1 d0 d1 r) x (fun i=>M.Sc.mk (sk i) (sc i) (sq i) (sa i) (sb i)) m (fun i=>M.Pk.mk (pk i) (ps i) (pa i) (pb i) (pc i) (pd i)) f i)),(12,.sl 5 n (fun j=>[SI (sk j),SI (sc j),SI (sq j),SI (sa j),SI (sb j)])),(13,SI n),(14,SI i)]
 SH i:=[(0,.cells [SI w,SI ht,SI s,SI v0,SI v1,SI d0,SI d1,SI r,.sl 1 ns (fun k=>[SI (x k)]),SI f]),(1,.row 5 (M.Gd.leN (M.Gd.mk w ht s v0 v1 d0 d1 r) x (fun i=>M.Sc.mk (sk i) (sc i) (sq i) (sa i) (sb i)) m (fun i=>M.Pk.mk (pk i) (ps i) (pa i) (pb i) (pc i) (pd i)) f i) (fun k=>[SI (M.Gd.leR (M.Gd.mk w ht s v0 v1 d0 d1 r) x (fun i=>M.Sc.mk (sk i) (sc i) (sq i) (sa i) (sb i)) m (fun i=>M.Pk.mk (pk i) (ps i) (pa i) (pb i) (pc i) (pd i)) f i k).k,SI (M.Gd.leR (M.Gd.mk w ht s v0 v1 d0 d1 r) x (fun i=>M.Sc.mk (sk i) (sc i) (sq i) (sa i) (sb i)) m (fun i=>M.Pk.mk (pk i) (ps i) (pa i) (pb i) (pc i) (pd i)) f i k).c,SI (M.Gd.leR (M.Gd.mk w ht s v0 v1 d0 d1 r) x (fun i=>M.Sc.mk (sk i) (sc i) (sq i) (sa i) (sb i)) m (fun i=>M.Pk.mk (pk i) (ps i) (pa i) (pb i) (pc i) (pd i)) f i k).q,SI (M.Gd.leR (M.Gd.mk w ht s v0 v1 d0 d1 r) x (fun i=>M.Sc.mk (sk i) (sc i) (sq i) (sa i) (sb i)) m (fun i=>M.Pk.mk (pk i) (ps i) (pa i) (pb i) (pc i) (pd i)) f i k).a,SI (M.Gd.leR (M.Gd.mk w ht s v0 v1 d0 d1 r) x (fun i=>M.Sc.mk (sk i) (sc i) (sq i) (sa i) (sb i)) m (fun i=>M.Pk.mk (pk i) (ps i) (pa i) (pb i) (pc i) (pd i)) f i k).b]))]
 n0:=2
 NA _:=[(7,.vec 0 5 0 (M.Gd.leN (M.Gd.mk w ht s v0 v1 d0 d1 r) x (fun i=>M.Sc.mk (sk i) (sc i) (sq i) (sa i) (sb i)) m (fun i=>M.Pk.mk (pk i) (ps i) (pa i) (pb i) (pc i) (pd i)) f n))]
 NH _:=[(0,.row 5 (M.Gd.leN (M.Gd.mk w ht s v0 v1 d0 d1 r) x (fun i=>M.Sc.mk (sk i) (sc i) (sq i) (sa i) (sb i)) m (fun i=>M.Pk.mk (pk i) (ps i) (pa i) (pb i) (pc i) (pd i)) f n) (fun k=>[SI (M.Gd.leR (M.Gd.mk w ht s v0 v1 d0 d1 r) x (fun i=>M.Sc.mk (sk i) (sc i) (sq i) (sa i) (sb i)) m (fun i=>M.Pk.mk (pk i) (ps i) (pa i) (pb i) (pc i) (pd i)) f n k).k,SI (M.Gd.leR (M.Gd.mk w ht s v0 v1 d0 d1 r) x (fun i=>M.Sc.mk (sk i) (sc i) (sq i) (sa i) (sb i)) m (fun i=>M.Pk.mk (pk i) (ps i) (pa i) (pb i) (pc i) (pd i)) f n k).c,SI (M.Gd.leR (M.Gd.mk w ht s v0 v1 d0 d1 r) x (fun i=>M.Sc.mk (sk i) (sc i) (sq i) (sa i) (sb i)) m (fun i=>M.Pk.mk (pk i) (ps i) (pa i) (pb i) (pc i) (pd i)) f n k).q,SI (M.Gd.leR (M.Gd.mk w ht s v0 v1 d0 d1 r) x (fun i=>M.Sc.mk (sk i) (sc i) (sq i) (sa i) (sb i)) m (fun i=>M.Pk.mk (pk i) (ps i) (pa i) (pb i) (pc i) (pd i)) f n k).a,SI (M.Gd.leR (M.Gd.mk w ht s v0 v1 d0 d1 r) x (fun i=>M.Sc.mk (sk i) (sc i) (sq i) (sa i) (sb i)) m (fun i=>M.Pk.mk (pk i) (ps i) (pa i) (pb i) (pc i) (pd i)) f n k).b]))]
 n1:=1
 RA _:=[]
 RH _:=[]
def Rq60 (w ht s v0 v1 d0 d1 r:Int) (ns:Nat) (x:Nat→Int) (f:Int) (n:Nat) (sk sc sq sa sb:Nat→Int) (m:Nat) (pk ps pa pb pc pd:Nat→Int) (i:Nat):Prop:=(fun (z12 z16:Int) (z2:M.Gd) (z3 z11 z17:Nat) (z0:Nat→M.Pk) (z1:Nat→M.Sc) (z7 z9 z13:Prop)=>(fun (z10:Bool × Int × Int) (z4 z8 z20:Nat) (z5 z6 z15:Nat→M.Sc) (z14 z19 z21 z22:Prop)=>(fun (z18:Prop)=>(decide ((↑i:Int)<z16)=true→(0:Int)≤(↑i:Int)∧(↑i:Int)<z16∧z3<n∧(decide (sk z3=(1:Int))=true→z13∧z7∧M.Gd.ok z2∧M.Gd.all z2 ns x∧ns≤(64:Nat)∧M.Gd.Sok z2 (M.Sc.mk (sk z3) (sc z3) (sq z3) (sa z3) (sb z3))∧(∀ (i:Nat),i<m→M.Pk.Vd ns (M.Pk.mk (pk i) (ps i) (pa i) (pb i) (pc i) (pd i)))∧m≤(64:Nat)∧(0:Int)≤f∧f≤(8:Int)∧((!z10.1)=true→R64 z12∧z14∧z22∧()=()∧(m=m∧z7)∧z17=z17∧z4=z8∧z9∧z16=z16∧z19∧w=w∧ht=ht∧s=s∧v0=v0∧v1=v1∧d0=d0∧d1=d1∧r=r∧(ns=ns∧z13)∧f=f∧z8≤z4∧(∀ (k:Nat),k<z8→(z6 k).k=(z5 k).k∧(z6 k).c=(z5 k).c∧(z6 k).q=(z5 k).q∧(z6 k).a=(z5 k).a∧(z6 k).b=(z5 k).b)∧True)∧((!z10.1)=false→z17+z11≤z11∧z21∧z4≤z4∧z18∧R64 z12∧z14∧z22∧()=()∧(m=m∧z7)∧z17=z17∧z4+z11=z8∧z9∧z16=z16∧z19∧w=w∧ht=ht∧s=s∧v0=v0∧v1=v1∧d0=d0∧d1=d1∧r=r∧(ns=ns∧z13)∧f=f∧z8≤z4+z11∧(∀ (k:Nat),k<z8→(bif decide (k<z4) then (z6 k).k else sk z3)=(z5 k).k∧(bif decide (k<z4) then (z6 k).c else sc z3)=(z5 k).c∧(bif decide (k<z4) then (z6 k).q else sq z3)=(z5 k).q∧(bif decide (k<z4) then (z6 k).a else z10.2.1)=(z5 k).a∧(bif decide (k<z4) then (z6 k).b else z10.2.2)=(z5 k).b)∧True))∧(decide (sk z3=(1:Int))=false→z17+z11≤z11∧z21∧z4≤z4∧z18∧R64 z12∧z14∧z22∧()=()∧(m=m∧z7)∧z17=z17∧z4+z11=z8∧z9∧z16=z16∧z19∧w=w∧ht=ht∧s=s∧v0=v0∧v1=v1∧d0=d0∧d1=d1∧r=r∧(ns=ns∧z13)∧f=f∧z8≤z4+z11∧(∀ (k:Nat),k<z8→(bif decide (k<z4) then (z6 k).k else sk z3)=(z5 k).k∧(bif decide (k<z4) then (z6 k).c else sc z3)=(z5 k).c∧(bif decide (k<z4) then (z6 k).q else sq z3)=(z5 k).q∧(bif decide (k<z4) then (z6 k).a else sa z3)=(z5 k).a∧(bif decide (k<z4) then (z6 k).b else sb z3)=(z5 k).b)∧True))∧(decide ((↑i:Int)<z16)=false→false=false∧z17=z17∧z4=z20∧z20≤z4∧(∀ (k:Nat),k<z20→(z6 k).k=(z15 k).k∧(z6 k).c=(z15 k).c∧(z6 k).q=(z15 k).q∧(z6 k).a=(z15 k).a∧(z6 k).b=(z15 k).b)∧True)) ((z4+z11)*(40:Nat)≤(140737488355328:Nat))) (M.Gd.lft z2 x (M.Sc.mk (sk z3) (sc z3) (sq z3) (sa z3) (sb z3)) m z0 f) (M.Gd.leN z2 x z1 m z0 f i) (M.Gd.leN z2 x z1 m z0 f (i+z11)) (M.Gd.leN z2 x z1 m z0 f n) (M.Gd.leR z2 x z1 m z0 f (i+z11)) (M.Gd.leR z2 x z1 m z0 f i) (M.Gd.leR z2 x z1 m z0 f n) (i+z11≤n∧M.Gd.Ck z2 ns x n z1 m z0 f) (z12=(↑(i+z11):Int)) (∀ (k:Nat),k<z11→true=true) (n-(i+z11)<n-i)) ((↑i:Int)+(1:Int)) (↑n:Int) (M.Gd.mk w ht s v0 v1 d0 d1 r) (Int.toNat (↑i:Int)) (1:Nat) (0:Nat) (fun i=>M.Pk.mk (pk i) (ps i) (pa i) (pb i) (pc i) (pd i)) (fun i=>M.Sc.mk (sk i) (sc i) (sq i) (sa i) (sb i)) (∀ (k:Nat),k<m→pk k=pk k∧ps k=ps k∧pa k=pa k∧pb k=pb k∧pc k=pc k∧pd k=pd k) (n=n∧∀ (k:Nat),k<n→sk k=sk k∧sc k=sc k∧sq k=sq k∧sa k=sa k∧sb k=sb k) (∀ (k:Nat),k<ns→x k=x k)
theorem q60 (w ht s v0 v1 d0 d1 r:Int) (ns:Nat) (x:Nat→Int) (f:Int) (n:Nat) (sk sc sq sa sb:Nat→Int) (m:Nat) (pk ps pa pb pc pd:Nat→Int) (i:Nat):VL true [] [(90,pureE e90)] YS.none Try.f60 0 [0,1,2,3,6,7,9,10,11,12,13,14,15,20,29] [] 0 (lp60 w ht s v0 v1 d0 d1 r ns x f n sk sc sq sa sb m pk ps pa pb pc pd) (i)=Rq60 w ht s v0 v1 d0 d1 r ns x f n sk sc sq sa sb m pk ps pa pb pc pd i:=by kernel_rfl
theorem peq60 (w ht s v0 v1 d0 d1 r:Int) (ns:Nat) (x:Nat→Int) (f:Int) (n:Nat) (sk sc sq sa sb:Nat→Int) (m:Nat) (pk ps pa pb pc pd:Nat→Int) (i:Nat):(lp60 w ht s v0 v1 d0 d1 r ns x f n sk sc sq sa sb m pk ps pa pb pc pd).pre (i)=(i≤n ∧
 M.Gd.Ck (M.Gd.mk w ht s v0 v1 d0 d1 r) ns x n (fun i=>M.Sc.mk (sk i) (sc i) (sq i) (sa i) (sb i)) m
  (fun i=>M.Pk.mk (pk i) (ps i) (pa i) (pb i) (pc i) (pd i)) f):=by kernel_rfl
theorem bq60 (w ht s v0 v1 d0 d1 r:Int) (ns:Nat) (x:Nat→Int) (f:Int) (n:Nat) (sk sc sq sa sb:Nat→Int) (m:Nat) (pk ps pa pb pc pd:Nat→Int) (i:Nat) (hp:i≤n ∧
 M.Gd.Ck (M.Gd.mk w ht s v0 v1 d0 d1 r) ns x n (fun i=>M.Sc.mk (sk i) (sc i) (sq i) (sa i) (sb i)) m
  (fun i=>M.Pk.mk (pk i) (ps i) (pa i) (pb i) (pc i) (pd i)) f):Rq60 w ht s v0 v1 d0 d1 r ns x f n sk sc sq sa sb m pk ps pa pb pc pd i:=by
 unfold Rq60
 dsimp -iota -proj -eta -zeta only
 obtain ⟨h1,hck⟩:=id hp
 obtain ⟨hk,hn,ha,⟨h2,hs⟩,hm,hP,f1,f2⟩:=id hck
 have r1:R64 ((i:Int)+1):=by unfold R64; omega
 have hlen:=M.Gd.leN_le (g:=(M.Gd.mk w ht s v0 v1 d0 d1 r)) (x:=x) (s:=(fun i=>M.Sc.mk (sk i) (sc i) (sq i) (sa i) (sb i))) (m:=m) (P:=(fun i=>M.Pk.mk (pk i) (ps i) (pa i) (pb i) (pc i) (pd i))) (f:=f) i
 simp only [Int.toNat_natCast,r1]
 by_cases hl:i<n
 ·have hl':(i:Int)<n:=by omega
  have hz:=hs i hl
  simp only at hz
  by_cases c1:sk i=1
  ·have hone:=M.Gd.one_quake (g:=(M.Gd.mk w ht s v0 v1 d0 d1 r)) (x:=x) (s:=(fun i=>M.Sc.mk (sk i) (sc i) (sq i) (sa i) (sb i))) (m:=m) (P:=(fun i=>M.Pk.mk (pk i) (ps i) (pa i) (pb i) (pc i) (pd i))) (f:=f) (i:=i) c1
   simp only at hone
   obtain ⟨u,hu⟩ : ∃ u,u=M.Gd.lft (M.Gd.mk w ht s v0 v1 d0 d1 r) x (M.Sc.mk (sk i) (sc i) (sq i) (sa i) (sb i)) m (fun i=>M.Pk.mk (pk i) (ps i) (pa i) (pb i) (pc i) (pd i)) f:=⟨_,rfl⟩
   rw [← hu] at hone
   simp only [← hu]
   by_cases c2:u.1=true
   ·rw [if_pos c2] at hone
    obtain ⟨e1,e2⟩:=M.Gd.le_step (s:=(fun i=>M.Sc.mk (sk i) (sc i) (sq i) (sa i) (sb i))) (i:=i) hone
    simp only [e1]
    obtain ⟨na,hna⟩ : ∃ na,na=(M.Gd.leN (M.Gd.mk w ht s v0 v1 d0 d1 r) x (fun i=>M.Sc.mk (sk i) (sc i) (sq i) (sa i) (sb i)) m (fun i=>M.Pk.mk (pk i) (ps i) (pa i) (pb i) (pc i) (pd i)) f i):=⟨_,rfl⟩
    simp only [← hna] at e2 hlen ⊢
    have e3:∀ k,k<na+1→(bif decide (k<na) then (M.Gd.leR (M.Gd.mk w ht s v0 v1 d0 d1 r) x (fun i=>M.Sc.mk (sk i) (sc i) (sq i) (sa i) (sb i)) m (fun i=>M.Pk.mk (pk i) (ps i) (pa i) (pb i) (pc i) (pd i)) f i k).k else sk i)=(M.Gd.leR (M.Gd.mk w ht s v0 v1 d0 d1 r) x (fun i=>M.Sc.mk (sk i) (sc i) (sq i) (sa i) (sb i)) m (fun i=>M.Pk.mk (pk i) (ps i) (pa i) (pb i) (pc i) (pd i)) f (i+1) k).k∧(bif decide (k<na) then (M.Gd.leR (M.Gd.mk w ht s v0 v1 d0 d1 r) x (fun i=>M.Sc.mk (sk i) (sc i) (sq i) (sa i) (sb i)) m (fun i=>M.Pk.mk (pk i) (ps i) (pa i) (pb i) (pc i) (pd i)) f i k).c else sc i)=(M.Gd.leR (M.Gd.mk w ht s v0 v1 d0 d1 r) x (fun i=>M.Sc.mk (sk i) (sc i) (sq i) (sa i) (sb i)) m (fun i=>M.Pk.mk (pk i) (ps i) (pa i) (pb i) (pc i) (pd i)) f (i+1) k).c∧(bif decide (k<na) then (M.Gd.leR (M.Gd.mk w ht s v0 v1 d0 d1 r) x (fun i=>M.Sc.mk (sk i) (sc i) (sq i) (sa i) (sb i)) m (fun i=>M.Pk.mk (pk i) (ps i) (pa i) (pb i) (pc i) (pd i)) f i k).q else sq i)=(M.Gd.leR (M.Gd.mk w ht s v0 v1 d0 d1 r) x (fun i=>M.Sc.mk (sk i) (sc i) (sq i) (sa i) (sb i)) m (fun i=>M.Pk.mk (pk i) (ps i) (pa i) (pb i) (pc i) (pd i)) f (i+1) k).q∧(bif decide (k<na) then (M.Gd.leR (M.Gd.mk w ht s v0 v1 d0 d1 r) x (fun i=>M.Sc.mk (sk i) (sc i) (sq i) (sa i) (sb i)) m (fun i=>M.Pk.mk (pk i) (ps i) (pa i) (pb i) (pc i) (pd i)) f i k).a else u.2.1)=(M.Gd.leR (M.Gd.mk w ht s v0 v1 d0 d1 r) x (fun i=>M.Sc.mk (sk i) (sc i) (sq i) (sa i) (sb i)) m (fun i=>M.Pk.mk (pk i) (ps i) (pa i) (pb i) (pc i) (pd i)) f (i+1) k).a∧(bif decide (k<na) then (M.Gd.leR (M.Gd.mk w ht s v0 v1 d0 d1 r) x (fun i=>M.Sc.mk (sk i) (sc i) (sq i) (sa i) (sb i)) m (fun i=>M.Pk.mk (pk i) (ps i) (pa i) (pb i) (pc i) (pd i)) f i k).b else u.2.2)=(M.Gd.leR (M.Gd.mk w ht s v0 v1 d0 d1 r) x (fun i=>M.Sc.mk (sk i) (sc i) (sq i) (sa i) (sb i)) m (fun i=>M.Pk.mk (pk i) (ps i) (pa i) (pb i) (pc i) (pd i)) f (i+1) k).b:=fun k hk2=>by
     rw [e2 k hk2]
     by_cases d1:k<na <;> simp [d1]
    clear hu hone e1 e2 hna
    simp only [c1] at e3 hz
    simp [hl,hl',c1,c2,hk,ha,hn,hz,hm,f1,f2,hck]
    repeat' apply And.intro
    all_goals first | omega | exact hP | exact fun k hk2=>by simpa using e3 k hk2
   ·rw [if_neg c2] at hone
    obtain ⟨e1,e2⟩:=M.Gd.le_stay (s:=(fun i=>M.Sc.mk (sk i) (sc i) (sq i) (sa i) (sb i))) (i:=i) hone
    simp only [e1,e2]
    clear hu hone e1 e2
    simp only [c1] at hz
    simp [hl,hl',c1,c2,hk,ha,hn,hz,hm,f1,f2,hck]
    repeat' apply And.intro
    all_goals first | omega | exact hP
  ·have hone:=M.Gd.one_other (g:=(M.Gd.mk w ht s v0 v1 d0 d1 r)) (x:=x) (s:=(fun i=>M.Sc.mk (sk i) (sc i) (sq i) (sa i) (sb i))) (m:=m) (P:=(fun i=>M.Pk.mk (pk i) (ps i) (pa i) (pb i) (pc i) (pd i))) (f:=f) (i:=i) c1
   obtain ⟨e1,e2⟩:=M.Gd.le_step (s:=(fun i=>M.Sc.mk (sk i) (sc i) (sq i) (sa i) (sb i))) (i:=i) hone
   simp only [e1]
   obtain ⟨na,hna⟩ : ∃ na,na=(M.Gd.leN (M.Gd.mk w ht s v0 v1 d0 d1 r) x (fun i=>M.Sc.mk (sk i) (sc i) (sq i) (sa i) (sb i)) m (fun i=>M.Pk.mk (pk i) (ps i) (pa i) (pb i) (pc i) (pd i)) f i):=⟨_,rfl⟩
   simp only [← hna] at e2 hlen ⊢
   have e3:∀ k,k<na+1→(bif decide (k<na) then (M.Gd.leR (M.Gd.mk w ht s v0 v1 d0 d1 r) x (fun i=>M.Sc.mk (sk i) (sc i) (sq i) (sa i) (sb i)) m (fun i=>M.Pk.mk (pk i) (ps i) (pa i) (pb i) (pc i) (pd i)) f i k).k else sk i)=(M.Gd.leR (M.Gd.mk w ht s v0 v1 d0 d1 r) x (fun i=>M.Sc.mk (sk i) (sc i) (sq i) (sa i) (sb i)) m (fun i=>M.Pk.mk (pk i) (ps i) (pa i) (pb i) (pc i) (pd i)) f (i+1) k).k∧(bif decide (k<na) then (M.Gd.leR (M.Gd.mk w ht s v0 v1 d0 d1 r) x (fun i=>M.Sc.mk (sk i) (sc i) (sq i) (sa i) (sb i)) m (fun i=>M.Pk.mk (pk i) (ps i) (pa i) (pb i) (pc i) (pd i)) f i k).c else sc i)=(M.Gd.leR (M.Gd.mk w ht s v0 v1 d0 d1 r) x (fun i=>M.Sc.mk (sk i) (sc i) (sq i) (sa i) (sb i)) m (fun i=>M.Pk.mk (pk i) (ps i) (pa i) (pb i) (pc i) (pd i)) f (i+1) k).c∧(bif decide (k<na) then (M.Gd.leR (M.Gd.mk w ht s v0 v1 d0 d1 r) x (fun i=>M.Sc.mk (sk i) (sc i) (sq i) (sa i) (sb i)) m (fun i=>M.Pk.mk (pk i) (ps i) (pa i) (pb i) (pc i) (pd i)) f i k).q else sq i)=(M.Gd.leR (M.Gd.mk w ht s v0 v1 d0 d1 r) x (fun i=>M.Sc.mk (sk i) (sc i) (sq i) (sa i) (sb i)) m (fun i=>M.Pk.mk (pk i) (ps i) (pa i) (pb i) (pc i) (pd i)) f (i+1) k).q∧(bif decide (k<na) then (M.Gd.leR (M.Gd.mk w ht s v0 v1 d0 d1 r) x (fun i=>M.Sc.mk (sk i) (sc i) (sq i) (sa i) (sb i)) m (fun i=>M.Pk.mk (pk i) (ps i) (pa i) (pb i) (pc i) (pd i)) f i k).a else sa i)=(M.Gd.leR (M.Gd.mk w ht s v0 v1 d0 d1 r) x (fun i=>M.Sc.mk (sk i) (sc i) (sq i) (sa i) (sb i)) m (fun i=>M.Pk.mk (pk i) (ps i) (pa i) (pb i) (pc i) (pd i)) f (i+1) k).a∧(bif decide (k<na) then (M.Gd.leR (M.Gd.mk w ht s v0 v1 d0 d1 r) x (fun i=>M.Sc.mk (sk i) (sc i) (sq i) (sa i) (sb i)) m (fun i=>M.Pk.mk (pk i) (ps i) (pa i) (pb i) (pc i) (pd i)) f i k).b else sb i)=(M.Gd.leR (M.Gd.mk w ht s v0 v1 d0 d1 r) x (fun i=>M.Sc.mk (sk i) (sc i) (sq i) (sa i) (sb i)) m (fun i=>M.Pk.mk (pk i) (ps i) (pa i) (pb i) (pc i) (pd i)) f (i+1) k).b:=fun k hk2=>by
    rw [e2 k hk2]
    by_cases d1:k<na <;> simp [d1]
   clear hone e1 e2 hna
   simp [hl,hl',c1,hk,ha,hn,hm,f1,f2,hck]
   repeat' apply And.intro
   all_goals first | omega | exact hP | exact fun k hk2=>by simpa using e3 k hk2
 ·have e:i=n:=by omega
  subst e
  simp
theorem t60 (w ht s v0 v1 d0 d1 r:Int) (ns:Nat) (x:Nat→Int) (f:Int) (n:Nat) (sk sc sq sa sb:Nat→Int) (m:Nat) (pk ps pa pb pc pd:Nat→Int) {F:Fence} (hF:FOK F) (Y:YEnv PP YS.none):∀ Q A H nx,loopT false Try.f60.ntmps 0 (lp60 w ht s v0 v1 d0 d1 r ns x f n sk sc sq sa sb m pk ps pa pb pc pd) (fun _ _ _=>(0:Nat)) Q A H nx→WPS Y F Try.f60.ntmps 0 (.block 0 (blkAt 0 Try.f60)) Q A H nx :=
 loopW (E:=[]) (.nil) (O:=[(90,pureE e90)]) (.cons (pureE_ok s90) (.nil)) (ck:=true) (L:=[0,1,2,3,6,7,9,10,11,12,13,14,15,20,29]) (f:=Try.f60) (m:=0) (id:=0) (l:=(lp60 w ht s v0 v1 d0 d1 r ns x f n sk sc sq sa sb m pk ps pa pb pc pd)) (LI:=fun i=>[]) Y hF (by kernel_rfl) (fun _=>.nil) (by
  rintro i hp
  exact Hold.of (q60 w ht s v0 v1 d0 d1 r ns x f n sk sc sq sa sb m pk ps pa pb pc pd i) (bq60 w ht s v0 v1 d0 d1 r ns x f n sk sc sq sa sb m pk ps pa pb pc pd i ((peq60 w ht s v0 v1 d0 d1 r ns x f n sk sc sq sa sb m pk ps pa pb pc pd i).mp hp)))
def e60:List SV→Option (List Prop × SV)
 | [.agg [.int .i64 w,.int .i64 ht,.int .i64 s,.int .i64 v0,.int .i64 v1,.int .i64 d0,.int .i64 d1,.int .i64 r,.sl 1 ns g_1,.int .i64 f],.sl 5 n g_2,.sl 6 m g_3]=>some ([Row 1 ns g_1,Row 5 n g_2,Row 6 m g_3,M.Gd.Ck (M.Gd.mk w ht s v0 v1 d0 d1 r) ns (cI g_1 0) n (fun i=>M.Sc.mk ((cI g_2 0) i) ((cI g_2 1) i) ((cI g_2 2) i) ((cI g_2 3) i) ((cI g_2 4) i)) m (fun i=>M.Pk.mk ((cI g_3 0) i) ((cI g_3 1) i) ((cI g_3 2) i) ((cI g_3 3) i) ((cI g_3 4) i) ((cI g_3 5) i)) f],.sl 5 (M.Gd.leN (M.Gd.mk w ht s v0 v1 d0 d1 r) (cI g_1 0) (fun i=>M.Sc.mk ((cI g_2 0) i) ((cI g_2 1) i) ((cI g_2 2) i) ((cI g_2 3) i) ((cI g_2 4) i)) m (fun i=>M.Pk.mk ((cI g_3 0) i) ((cI g_3 1) i) ((cI g_3 2) i) ((cI g_3 3) i) ((cI g_3 4) i) ((cI g_3 5) i)) f n) (fun k=>[SI (M.Gd.leR (M.Gd.mk w ht s v0 v1 d0 d1 r) (cI g_1 0) (fun i=>M.Sc.mk ((cI g_2 0) i) ((cI g_2 1) i) ((cI g_2 2) i) ((cI g_2 3) i) ((cI g_2 4) i)) m (fun i=>M.Pk.mk ((cI g_3 0) i) ((cI g_3 1) i) ((cI g_3 2) i) ((cI g_3 3) i) ((cI g_3 4) i) ((cI g_3 5) i)) f n k).k,SI (M.Gd.leR (M.Gd.mk w ht s v0 v1 d0 d1 r) (cI g_1 0) (fun i=>M.Sc.mk ((cI g_2 0) i) ((cI g_2 1) i) ((cI g_2 2) i) ((cI g_2 3) i) ((cI g_2 4) i)) m (fun i=>M.Pk.mk ((cI g_3 0) i) ((cI g_3 1) i) ((cI g_3 2) i) ((cI g_3 3) i) ((cI g_3 4) i) ((cI g_3 5) i)) f n k).c,SI (M.Gd.leR (M.Gd.mk w ht s v0 v1 d0 d1 r) (cI g_1 0) (fun i=>M.Sc.mk ((cI g_2 0) i) ((cI g_2 1) i) ((cI g_2 2) i) ((cI g_2 3) i) ((cI g_2 4) i)) m (fun i=>M.Pk.mk ((cI g_3 0) i) ((cI g_3 1) i) ((cI g_3 2) i) ((cI g_3 3) i) ((cI g_3 4) i) ((cI g_3 5) i)) f n k).q,SI (M.Gd.leR (M.Gd.mk w ht s v0 v1 d0 d1 r) (cI g_1 0) (fun i=>M.Sc.mk ((cI g_2 0) i) ((cI g_2 1) i) ((cI g_2 2) i) ((cI g_2 3) i) ((cI g_2 4) i)) m (fun i=>M.Pk.mk ((cI g_3 0) i) ((cI g_3 1) i) ((cI g_3 2) i) ((cI g_3 3) i) ((cI g_3 4) i) ((cI g_3 5) i)) f n k).a,SI (M.Gd.leR (M.Gd.mk w ht s v0 v1 d0 d1 r) (cI g_1 0) (fun i=>M.Sc.mk ((cI g_2 0) i) ((cI g_2 1) i) ((cI g_2 2) i) ((cI g_2 3) i) ((cI g_2 4) i)) m (fun i=>M.Pk.mk ((cI g_3 0) i) ((cI g_3 1) i) ((cI g_3 2) i) ((cI g_3 3) i) ((cI g_3 4) i) ((cI g_3 5) i)) f n k).b]))
 | _=>none
def Rr60 (w ht s v0 v1 d0 d1 r:Int) (ns:Nat) (x:Nat→Int) (f:Int) (n:Nat) (sk sc sq sa sb:Nat→Int) (m:Nat) (pk ps pa pb pc pd:Nat→Int):Prop:=(fun (z1 z3:Nat) (z0:Nat→M.Sc)=>(fun (z2:Prop)=>(z3≤n∧M.Gd.Ck (M.Gd.mk w ht s v0 v1 d0 d1 r) ns x n (fun i=>M.Sc.mk (sk i) (sc i) (sq i) (sa i) (sb i)) m (fun i=>M.Pk.mk (pk i) (ps i) (pa i) (pb i) (pc i) (pd i)) f)∧((m=m∧∀ (k:Nat),k<m→pk k=pk k∧ps k=ps k∧pa k=pa k∧pb k=pb k∧pc k=pc k∧pd k=pd k)∧z2∧(n=n∧∀ (k:Nat),k<n→sk k=sk k∧sc k=sc k∧sq k=sq k∧sa k=sa k∧sb k=sb k)∧(↑n:Int)=(↑n:Int)∧(0:Int)=(↑z3:Int)∧w=w∧ht=ht∧s=s∧v0=v0∧v1=v1∧d0=d0∧d1=d1∧r=r∧(ns=ns∧∀ (k:Nat),k<ns→x k=x k)∧f=f∧z2∧True)∧(false=false→z3+z1≤z1∧z1=z1∧∀ (k:Nat),k<z1→(z0 (z3+k)).k=(z0 k).k∧(z0 (z3+k)).c=(z0 k).c∧(z0 (z3+k)).q=(z0 k).q∧(z0 (z3+k)).a=(z0 k).a∧(z0 (z3+k)).b=(z0 k).b)∧(false=true→False)) (M.Gd.leN (M.Gd.mk w ht s v0 v1 d0 d1 r) x (fun i=>M.Sc.mk (sk i) (sc i) (sq i) (sa i) (sb i)) m (fun i=>M.Pk.mk (pk i) (ps i) (pa i) (pb i) (pc i) (pd i)) f z3=z3)) (M.Gd.leN (M.Gd.mk w ht s v0 v1 d0 d1 r) x (fun i=>M.Sc.mk (sk i) (sc i) (sq i) (sa i) (sb i)) m (fun i=>M.Pk.mk (pk i) (ps i) (pa i) (pb i) (pc i) (pd i)) f n) (0:Nat) (M.Gd.leR (M.Gd.mk w ht s v0 v1 d0 d1 r) x (fun i=>M.Sc.mk (sk i) (sc i) (sq i) (sa i) (sb i)) m (fun i=>M.Pk.mk (pk i) (ps i) (pa i) (pb i) (pc i) (pd i)) f n)
theorem r60 (w ht s v0 v1 d0 d1 r:Int) (ns:Nat) (x:Nat→Int) (f:Int) (n:Nat) (sk sc sq sa sb:Nat→Int) (m:Nat) (pk ps pa pb pc pd:Nat→Int):V true [] [] Try.f60 [0,1,2,3,6,7,9,10,11,12,13,14,15,20,29] [(0,loopT false Try.f60.ntmps 0 (lp60 w ht s v0 v1 d0 d1 r ns x f n sk sc sq sa sb m pk ps pa pb pc pd) (fun _ _ _=>(0:Nat)))] [.agg [SI w,SI ht,SI s,SI v0,SI v1,SI d0,SI d1,SI r,.sl 1 ns (fun k=>[SI (x k)]),SI f],.sl 5 n (fun k=>[SI (sk k),SI (sc k),SI (sq k),SI (sa k),SI (sb k)]),.sl 6 m (fun k=>[SI (pk k),SI (ps k),SI (pa k),SI (pb k),SI (pc k),SI (pd k)])] (.sl 5 (M.Gd.leN (M.Gd.mk w ht s v0 v1 d0 d1 r) x (fun i=>M.Sc.mk (sk i) (sc i) (sq i) (sa i) (sb i)) m (fun i=>M.Pk.mk (pk i) (ps i) (pa i) (pb i) (pc i) (pd i)) f n) (fun k=>[SI (M.Gd.leR (M.Gd.mk w ht s v0 v1 d0 d1 r) x (fun i=>M.Sc.mk (sk i) (sc i) (sq i) (sa i) (sb i)) m (fun i=>M.Pk.mk (pk i) (ps i) (pa i) (pb i) (pc i) (pd i)) f n k).k,SI (M.Gd.leR (M.Gd.mk w ht s v0 v1 d0 d1 r) x (fun i=>M.Sc.mk (sk i) (sc i) (sq i) (sa i) (sb i)) m (fun i=>M.Pk.mk (pk i) (ps i) (pa i) (pb i) (pc i) (pd i)) f n k).c,SI (M.Gd.leR (M.Gd.mk w ht s v0 v1 d0 d1 r) x (fun i=>M.Sc.mk (sk i) (sc i) (sq i) (sa i) (sb i)) m (fun i=>M.Pk.mk (pk i) (ps i) (pa i) (pb i) (pc i) (pd i)) f n k).q,SI (M.Gd.leR (M.Gd.mk w ht s v0 v1 d0 d1 r) x (fun i=>M.Sc.mk (sk i) (sc i) (sq i) (sa i) (sb i)) m (fun i=>M.Pk.mk (pk i) (ps i) (pa i) (pb i) (pc i) (pd i)) f n k).a,SI (M.Gd.leR (M.Gd.mk w ht s v0 v1 d0 d1 r) x (fun i=>M.Sc.mk (sk i) (sc i) (sq i) (sa i) (sb i)) m (fun i=>M.Pk.mk (pk i) (ps i) (pa i) (pb i) (pc i) (pd i)) f n k).b]))=Rr60 w ht s v0 v1 d0 d1 r ns x f n sk sc sq sa sb m pk ps pa pb pc pd:=by kernel_rfl
theorem br60 (w ht s v0 v1 d0 d1 r:Int) (ns:Nat) (x:Nat→Int) (f:Int) (n:Nat) (sk sc sq sa sb:Nat→Int) (m:Nat) (pk ps pa pb pc pd:Nat→Int) (hp:(M.Gd.Ck (M.Gd.mk w ht s v0 v1 d0 d1 r) ns x n (fun i=>M.Sc.mk (sk i) (sc i) (sq i) (sa i) (sb i)) m (fun i=>M.Pk.mk (pk i) (ps i) (pa i) (pb i) (pc i) (pd i)) f)∧AllP []):Rr60 w ht s v0 v1 d0 d1 r ns x f n sk sc sq sa sb m pk ps pa pb pc pd:=by
 unfold Rr60
 dsimp -iota -proj -eta -zeta only
 obtain ⟨hck,-⟩:=id hp
 simp [hck,M.Gd.leN,M.Gd.leL]
theorem s60:PureOK PP 60 e60:=by
 intro xs ps res h hp
 unfold e60 at h
 split at h
 ·rename_i w ht s v0 v1 d0 d1 r ns g_1 f n g_2 m g_3
  cases h
  simp only [AllP.cons] at hp
  obtain ⟨Hg_1,Hg_2,Hg_3,hp⟩:=hp
  exact Spec.args (enterH (Hold.of (r60 w ht s v0 v1 d0 d1 r ns (cI g_1 0) f n (cI g_2 0) (cI g_2 1) (cI g_2 2) (cI g_2 3) (cI g_2 4) m (cI g_3 0) (cI g_3 1) (cI g_3 2) (cI g_3 3) (cI g_3 4) (cI g_3 5)) (br60 w ht s v0 v1 d0 d1 r ns (cI g_1 0) f n (cI g_2 0) (cI g_2 1) (cI g_2 2) (cI g_2 3) (cI g_2 4) m (cI g_3 0) (cI g_3 1) (cI g_3 2) (cI g_3 3) (cI g_3 4) (cI g_3 5) hp)) (.nil) (.nil) (k:=60) (by kernel_rfl) (by kernel_rfl) (fun Y=>.cons (by kernel_rfl) (t60 w ht s v0 v1 d0 d1 r ns (cI g_1 0) f n (cI g_2 0) (cI g_2 1) (cI g_2 2) (cI g_2 3) (cI g_2 4) m (cI g_3 0) (cI g_3 1) (cI g_3 2) (cI g_3 3) (cI g_3 4) (cI g_3 5) FOK.wide Y) (.nil))) (.cons (.agg (.cons (.refl _) (.cons (.refl _) (.cons (.refl _) (.cons (.refl _) (.cons (.refl _) (.cons (.refl _) (.cons (.refl _) (.cons (.refl _) (.cons (.row Hg_1 fun _=>rfl) (.cons (.refl _) .nil))))))))))) (.cons (.row Hg_2 fun _=>rfl) (.cons (.row Hg_3 fun _=>rfl) .nil)))
 ·cases h
def e18:List SV→Option (List Prop × SV)
 | [.agg [.int .i64 w,.int .i64 ht,.int .i64 s,.int .i64 v0,.int .i64 v1,.int .i64 d0,.int .i64 d1,.int .i64 r],.sl 1 ns g_1,.sl 5 n g_2,.sl 6 m g_3,.int .i64 f]=>some ([Row 1 ns g_1,Row 5 n g_2,Row 6 m g_3,ns≤100000,n≤100000,m≤100000],.tup [.sl 5 (if (M.Gd.ckE (M.Gd.mk w ht s v0 v1 d0 d1 r) ns (cI g_1 0) n (fun i=>M.Sc.mk ((cI g_2 0) i) ((cI g_2 1) i) ((cI g_2 2) i) ((cI g_2 3) i) ((cI g_2 4) i)) m (fun i=>M.Pk.mk ((cI g_3 0) i) ((cI g_3 1) i) ((cI g_3 2) i) ((cI g_3 3) i) ((cI g_3 4) i) ((cI g_3 5) i)) f)=0 then (M.Gd.leN (M.Gd.mk w ht s v0 v1 d0 d1 r) (cI g_1 0) (fun i=>M.Sc.mk ((cI g_2 0) i) ((cI g_2 1) i) ((cI g_2 2) i) ((cI g_2 3) i) ((cI g_2 4) i)) m (fun i=>M.Pk.mk ((cI g_3 0) i) ((cI g_3 1) i) ((cI g_3 2) i) ((cI g_3 3) i) ((cI g_3 4) i) ((cI g_3 5) i)) f n) else 0) (fun k=>[SI (M.Gd.leR (M.Gd.mk w ht s v0 v1 d0 d1 r) (cI g_1 0) (fun i=>M.Sc.mk ((cI g_2 0) i) ((cI g_2 1) i) ((cI g_2 2) i) ((cI g_2 3) i) ((cI g_2 4) i)) m (fun i=>M.Pk.mk ((cI g_3 0) i) ((cI g_3 1) i) ((cI g_3 2) i) ((cI g_3 3) i) ((cI g_3 4) i) ((cI g_3 5) i)) f n k).k,SI (M.Gd.leR (M.Gd.mk w ht s v0 v1 d0 d1 r) (cI g_1 0) (fun i=>M.Sc.mk ((cI g_2 0) i) ((cI g_2 1) i) ((cI g_2 2) i) ((cI g_2 3) i) ((cI g_2 4) i)) m (fun i=>M.Pk.mk ((cI g_3 0) i) ((cI g_3 1) i) ((cI g_3 2) i) ((cI g_3 3) i) ((cI g_3 4) i) ((cI g_3 5) i)) f n k).c,SI (M.Gd.leR (M.Gd.mk w ht s v0 v1 d0 d1 r) (cI g_1 0) (fun i=>M.Sc.mk ((cI g_2 0) i) ((cI g_2 1) i) ((cI g_2 2) i) ((cI g_2 3) i) ((cI g_2 4) i)) m (fun i=>M.Pk.mk ((cI g_3 0) i) ((cI g_3 1) i) ((cI g_3 2) i) ((cI g_3 3) i) ((cI g_3 4) i) ((cI g_3 5) i)) f n k).q,SI (M.Gd.leR (M.Gd.mk w ht s v0 v1 d0 d1 r) (cI g_1 0) (fun i=>M.Sc.mk ((cI g_2 0) i) ((cI g_2 1) i) ((cI g_2 2) i) ((cI g_2 3) i) ((cI g_2 4) i)) m (fun i=>M.Pk.mk ((cI g_3 0) i) ((cI g_3 1) i) ((cI g_3 2) i) ((cI g_3 3) i) ((cI g_3 4) i) ((cI g_3 5) i)) f n k).a,SI (M.Gd.leR (M.Gd.mk w ht s v0 v1 d0 d1 r) (cI g_1 0) (fun i=>M.Sc.mk ((cI g_2 0) i) ((cI g_2 1) i) ((cI g_2 2) i) ((cI g_2 3) i) ((cI g_2 4) i)) m (fun i=>M.Pk.mk ((cI g_3 0) i) ((cI g_3 1) i) ((cI g_3 2) i) ((cI g_3 3) i) ((cI g_3 4) i) ((cI g_3 5) i)) f n k).b]),SI (M.Gd.ckE (M.Gd.mk w ht s v0 v1 d0 d1 r) ns (cI g_1 0) n (fun i=>M.Sc.mk ((cI g_2 0) i) ((cI g_2 1) i) ((cI g_2 2) i) ((cI g_2 3) i) ((cI g_2 4) i)) m (fun i=>M.Pk.mk ((cI g_3 0) i) ((cI g_3 1) i) ((cI g_3 2) i) ((cI g_3 3) i) ((cI g_3 4) i) ((cI g_3 5) i)) f)])
 | _=>none
def Rr18 (w ht s v0 v1 d0 d1 r:Int) (ns:Nat) (x:Nat→Int) (f:Int) (n:Nat) (sk sc sq sa sb:Nat→Int) (m:Nat) (pk ps pa pb pc pd:Nat→Int):Prop:=(fun (z1:Int) (z2:Nat) (z0:Nat→M.Sc) (z3 z4 z6:Prop)=>(fun (z5:Nat)=>z6∧z4∧z3∧ns≤(100000:Nat)∧n≤(100000:Nat)∧m≤(100000:Nat)∧((!decide (z1=(0:Int)))=true→z5=(0:Nat)∧z1=z1)∧((!decide (z1=(0:Int)))=false→z6∧z4∧z3∧M.Gd.Ck (M.Gd.mk w ht s v0 v1 d0 d1 r) ns x n (fun i=>M.Sc.mk (sk i) (sc i) (sq i) (sa i) (sb i)) m (fun i=>M.Pk.mk (pk i) (ps i) (pa i) (pb i) (pc i) (pd i)) f∧((z2=z5)∧∀ (k:Nat),k<z2→(z0 k).k=(z0 k).k∧(z0 k).c=(z0 k).c∧(z0 k).q=(z0 k).q∧(z0 k).a=(z0 k).a∧(z0 k).b=(z0 k).b)∧(0:Int)=z1)) (if z1=(0:Int) then z2 else (0:Nat))) (M.Gd.ckE (M.Gd.mk w ht s v0 v1 d0 d1 r) ns x n (fun i=>M.Sc.mk (sk i) (sc i) (sq i) (sa i) (sb i)) m (fun i=>M.Pk.mk (pk i) (ps i) (pa i) (pb i) (pc i) (pd i)) f) (M.Gd.leN (M.Gd.mk w ht s v0 v1 d0 d1 r) x (fun i=>M.Sc.mk (sk i) (sc i) (sq i) (sa i) (sb i)) m (fun i=>M.Pk.mk (pk i) (ps i) (pa i) (pb i) (pc i) (pd i)) f n) (M.Gd.leR (M.Gd.mk w ht s v0 v1 d0 d1 r) x (fun i=>M.Sc.mk (sk i) (sc i) (sq i) (sa i) (sb i)) m (fun i=>M.Pk.mk (pk i) (ps i) (pa i) (pb i) (pc i) (pd i)) f n) (∀ (k:Nat),k<m→pk k=pk k∧ps k=ps k∧pa k=pa k∧pb k=pb k∧pc k=pc k∧pd k=pd k) (∀ (k:Nat),k<n→sk k=sk k∧sc k=sc k∧sq k=sq k∧sa k=sa k∧sb k=sb k) (∀ (k:Nat),k<ns→x k=x k)
theorem r18 (w ht s v0 v1 d0 d1 r:Int) (ns:Nat) (x:Nat→Int) (f:Int) (n:Nat) (sk sc sq sa sb:Nat→Int) (m:Nat) (pk ps pa pb pc pd:Nat→Int):V true [] [(59,pureE e59),(60,pureE e60)] Try.f18 [0,1,2,3,4,5,10,11,12,13,23] [] [.agg [SI w,SI ht,SI s,SI v0,SI v1,SI d0,SI d1,SI r],.sl 1 ns (fun k=>[SI (x k)]),.sl 5 n (fun k=>[SI (sk k),SI (sc k),SI (sq k),SI (sa k),SI (sb k)]),.sl 6 m (fun k=>[SI (pk k),SI (ps k),SI (pa k),SI (pb k),SI (pc k),SI (pd k)]),SI f] (.tup [.sl 5 (if (M.Gd.ckE (M.Gd.mk w ht s v0 v1 d0 d1 r) ns x n (fun i=>M.Sc.mk (sk i) (sc i) (sq i) (sa i) (sb i)) m (fun i=>M.Pk.mk (pk i) (ps i) (pa i) (pb i) (pc i) (pd i)) f)=0 then (M.Gd.leN (M.Gd.mk w ht s v0 v1 d0 d1 r) x (fun i=>M.Sc.mk (sk i) (sc i) (sq i) (sa i) (sb i)) m (fun i=>M.Pk.mk (pk i) (ps i) (pa i) (pb i) (pc i) (pd i)) f n) else 0) (fun k=>[SI (M.Gd.leR (M.Gd.mk w ht s v0 v1 d0 d1 r) x (fun i=>M.Sc.mk (sk i) (sc i) (sq i) (sa i) (sb i)) m (fun i=>M.Pk.mk (pk i) (ps i) (pa i) (pb i) (pc i) (pd i)) f n k).k,SI (M.Gd.leR (M.Gd.mk w ht s v0 v1 d0 d1 r) x (fun i=>M.Sc.mk (sk i) (sc i) (sq i) (sa i) (sb i)) m (fun i=>M.Pk.mk (pk i) (ps i) (pa i) (pb i) (pc i) (pd i)) f n k).c,SI (M.Gd.leR (M.Gd.mk w ht s v0 v1 d0 d1 r) x (fun i=>M.Sc.mk (sk i) (sc i) (sq i) (sa i) (sb i)) m (fun i=>M.Pk.mk (pk i) (ps i) (pa i) (pb i) (pc i) (pd i)) f n k).q,SI (M.Gd.leR (M.Gd.mk w ht s v0 v1 d0 d1 r) x (fun i=>M.Sc.mk (sk i) (sc i) (sq i) (sa i) (sb i)) m (fun i=>M.Pk.mk (pk i) (ps i) (pa i) (pb i) (pc i) (pd i)) f n k).a,SI (M.Gd.leR (M.Gd.mk w ht s v0 v1 d0 d1 r) x (fun i=>M.Sc.mk (sk i) (sc i) (sq i) (sa i) (sb i)) m (fun i=>M.Pk.mk (pk i) (ps i) (pa i) (pb i) (pc i) (pd i)) f n k).b]),SI (M.Gd.ckE (M.Gd.mk w ht s v0 v1 d0 d1 r) ns x n (fun i=>M.Sc.mk (sk i) (sc i) (sq i) (sa i) (sb i)) m (fun i=>M.Pk.mk (pk i) (ps i) (pa i) (pb i) (pc i) (pd i)) f)])=Rr18 w ht s v0 v1 d0 d1 r ns x f n sk sc sq sa sb m pk ps pa pb pc pd:=by kernel_rfl
theorem br18 (w ht s v0 v1 d0 d1 r:Int) (ns:Nat) (x:Nat→Int) (f:Int) (n:Nat) (sk sc sq sa sb:Nat→Int) (m:Nat) (pk ps pa pb pc pd:Nat→Int) (hp:(ns≤100000)∧(n≤100000)∧(m≤100000)∧AllP []):Rr18 w ht s v0 v1 d0 d1 r ns x f n sk sc sq sa sb m pk ps pa pb pc pd:=by
 unfold Rr18
 dsimp -iota -proj -eta -zeta only
 obtain ⟨h1,h2,h3,-⟩:=id hp
 by_cases c:(M.Gd.ckE (M.Gd.mk w ht s v0 v1 d0 d1 r) ns x n (fun i=>M.Sc.mk (sk i) (sc i) (sq i) (sa i) (sb i)) m (fun i=>M.Pk.mk (pk i) (ps i) (pa i) (pb i) (pc i) (pd i)) f)=0
 ·have hck:=M.Gd.ckE_ok.1 c
  simp [c,hck,h1,h2,h3]
 ·simp [c,h1,h2,h3]
theorem s18:PureOK PP 18 e18:=by
 intro xs ps res h hp
 unfold e18 at h
 split at h
 ·rename_i w ht s v0 v1 d0 d1 r ns g_1 n g_2 m g_3 f
  cases h
  simp only [AllP.cons] at hp
  obtain ⟨Hg_1,Hg_2,Hg_3,hp⟩:=hp
  exact Spec.args (enterH (Hold.of (r18 w ht s v0 v1 d0 d1 r ns (cI g_1 0) f n (cI g_2 0) (cI g_2 1) (cI g_2 2) (cI g_2 3) (cI g_2 4) m (cI g_3 0) (cI g_3 1) (cI g_3 2) (cI g_3 3) (cI g_3 4) (cI g_3 5)) (br18 w ht s v0 v1 d0 d1 r ns (cI g_1 0) f n (cI g_2 0) (cI g_2 1) (cI g_2 2) (cI g_2 3) (cI g_2 4) m (cI g_3 0) (cI g_3 1) (cI g_3 2) (cI g_3 3) (cI g_3 4) (cI g_3 5) hp)) (.nil) (.cons (pureE_ok s59) (.cons (pureE_ok s60) (.nil))) (k:=18) (by kernel_rfl) (by kernel_rfl) (fun _=>.nil)) (.cons (.refl _) (.cons (.row Hg_1 fun _=>rfl) (.cons (.row Hg_2 fun _=>rfl) (.cons (.row Hg_3 fun _=>rfl) (.cons (.refl _) .nil)))))
 ·cases h
def e19:List SV→Option (List Prop × SV)
 | [.agg [.int .i64 w,.int .i64 ht,.int .i64 s,.int .i64 v0,.int .i64 v1,.int .i64 d0,.int .i64 d1,.int .i64 r],.sl 1 ns g_1,.sl 5 n g_2,.sl 6 m g_3,.int .i64 f]=>some ([Row 1 ns g_1,Row 5 n g_2,Row 6 m g_3,ns≤100000,n≤100000,m≤100000],.tup [.sl 5 (if (M.Gd.ckE (M.Gd.mk w ht s v0 v1 d0 d1 r) ns (cI g_1 0) n (fun i=>M.Sc.mk ((cI g_2 0) i) ((cI g_2 1) i) ((cI g_2 2) i) ((cI g_2 3) i) ((cI g_2 4) i)) m (fun i=>M.Pk.mk ((cI g_3 0) i) ((cI g_3 1) i) ((cI g_3 2) i) ((cI g_3 3) i) ((cI g_3 4) i) ((cI g_3 5) i)) f)=0 then (M.Gd.leN (M.Gd.mk w ht s v0 v1 d0 d1 r) (cI g_1 0) (fun i=>M.Sc.mk ((cI g_2 0) i) ((cI g_2 1) i) ((cI g_2 2) i) ((cI g_2 3) i) ((cI g_2 4) i)) m (fun i=>M.Pk.mk ((cI g_3 0) i) ((cI g_3 1) i) ((cI g_3 2) i) ((cI g_3 3) i) ((cI g_3 4) i) ((cI g_3 5) i)) f n) else 0) (fun k=>[SI (M.Gd.leR (M.Gd.mk w ht s v0 v1 d0 d1 r) (cI g_1 0) (fun i=>M.Sc.mk ((cI g_2 0) i) ((cI g_2 1) i) ((cI g_2 2) i) ((cI g_2 3) i) ((cI g_2 4) i)) m (fun i=>M.Pk.mk ((cI g_3 0) i) ((cI g_3 1) i) ((cI g_3 2) i) ((cI g_3 3) i) ((cI g_3 4) i) ((cI g_3 5) i)) f n k).k,SI (M.Gd.leR (M.Gd.mk w ht s v0 v1 d0 d1 r) (cI g_1 0) (fun i=>M.Sc.mk ((cI g_2 0) i) ((cI g_2 1) i) ((cI g_2 2) i) ((cI g_2 3) i) ((cI g_2 4) i)) m (fun i=>M.Pk.mk ((cI g_3 0) i) ((cI g_3 1) i) ((cI g_3 2) i) ((cI g_3 3) i) ((cI g_3 4) i) ((cI g_3 5) i)) f n k).c,SI (M.Gd.leR (M.Gd.mk w ht s v0 v1 d0 d1 r) (cI g_1 0) (fun i=>M.Sc.mk ((cI g_2 0) i) ((cI g_2 1) i) ((cI g_2 2) i) ((cI g_2 3) i) ((cI g_2 4) i)) m (fun i=>M.Pk.mk ((cI g_3 0) i) ((cI g_3 1) i) ((cI g_3 2) i) ((cI g_3 3) i) ((cI g_3 4) i) ((cI g_3 5) i)) f n k).q,SI (M.Gd.leR (M.Gd.mk w ht s v0 v1 d0 d1 r) (cI g_1 0) (fun i=>M.Sc.mk ((cI g_2 0) i) ((cI g_2 1) i) ((cI g_2 2) i) ((cI g_2 3) i) ((cI g_2 4) i)) m (fun i=>M.Pk.mk ((cI g_3 0) i) ((cI g_3 1) i) ((cI g_3 2) i) ((cI g_3 3) i) ((cI g_3 4) i) ((cI g_3 5) i)) f n k).a,SI (M.Gd.leR (M.Gd.mk w ht s v0 v1 d0 d1 r) (cI g_1 0) (fun i=>M.Sc.mk ((cI g_2 0) i) ((cI g_2 1) i) ((cI g_2 2) i) ((cI g_2 3) i) ((cI g_2 4) i)) m (fun i=>M.Pk.mk ((cI g_3 0) i) ((cI g_3 1) i) ((cI g_3 2) i) ((cI g_3 3) i) ((cI g_3 4) i) ((cI g_3 5) i)) f n k).b]),SI (M.Gd.ckE (M.Gd.mk w ht s v0 v1 d0 d1 r) ns (cI g_1 0) n (fun i=>M.Sc.mk ((cI g_2 0) i) ((cI g_2 1) i) ((cI g_2 2) i) ((cI g_2 3) i) ((cI g_2 4) i)) m (fun i=>M.Pk.mk ((cI g_3 0) i) ((cI g_3 1) i) ((cI g_3 2) i) ((cI g_3 3) i) ((cI g_3 4) i) ((cI g_3 5) i)) f)])
 | _=>none
end Go.Proofs.Ytoncoofmijjgeaa.Sep
namespace Go.Proofs.Ytoncoofmijjgeaa.M
open Go
set_option linter.unusedVariables false
set_option linter.unusedSimpArgs false
namespace Gd
variable {g : Gd} {x : Nat → Int} {s : Sc} {f : Int}
theorem moL_congr {P P':Nat→Pk} : ∀ {m:Nat},(∀ i,i<m→P i=P' i)→g.moL x s P m=g.moL x s P' m
 | 0,_=>rfl
 | m+1,h=>by unfold moL; rw [moL_congr fun i hi=>h i (by omega),h m (by omega)]
theorem lft_congr {P P':Nat→Pk} {m:Nat} (h:∀ i,i<m→P i=P' i):g.lft x s m P f=g.lft x s m P' f:=by
 unfold lft
 rw [moL_congr h]
 have e:g.cnt x s m P=g.cnt x s m P':=by
  funext t
  unfold cnt
  exact sumN_congr fun k hk=>by rw [h k hk]
 rw [e]
def stk (g:Gd) (x:Nat→Int) (s:Sc) (P:Nat→Pk) (f:Int) (nl:Nat) (l:Nat→Int):Bool:=decide (s.k=1) && !(g.lft x s nl (fun j=>P (l j).toNat) f).1
def rowN (L:List Nat):Nat→Int:=fun k=>(L.getD k 0:Nat)
def stkL (g:Gd) (x:Nat→Int) (s:Sc) (P:Nat→Pk) (f:Int) (L:List Nat):Bool:=g.stk x s P f L.length (rowN L)
def prD (g:Gd) (x:Nat→Int) (s:Sc) (m:Nat) (P:Nat→Pk) (f:Int):Nat→List Nat
 | 0=>[]
 | d+1=>if g.stkL x s P f (List.range (m-1-d) ++ prD g x s m P f d)=true then prD g x s m P f d else (m-1-d) :: prD g x s m P f d
def prL (g:Gd) (x:Nat→Int) (s:Sc) (m:Nat) (P:Nat→Pk) (f:Int) (d:Nat):List Nat:=List.range (m-d) ++ g.prD x s m P f d
def prN (g:Gd) (x:Nat→Int) (s:Sc) (m:Nat) (P:Nat→Pk) (f:Int) (d:Nat):Nat:=(g.prL x s m P f d).length
def prR (g:Gd) (x:Nat→Int) (s:Sc) (m:Nat) (P:Nat→Pk) (f:Int) (d:Nat):Nat→Int:=rowN (g.prL x s m P f d)
variable {m : Nat} {P : Nat → Pk} {d : Nat}
theorem prL_split (h:d<m):g.prL x s m P f d=List.range (m-1-d) ++ ((m-1-d) :: g.prD x s m P f d):=by
 unfold prL
 have e:m-d=(m-1-d)+1:=by omega
 rw [e,List.range_succ,List.append_assoc]
 simp
theorem prL_succ (h:d<m):g.prL x s m P f (d+1)=if g.stkL x s P f (List.range (m-1-d) ++ g.prD x s m P f d)=true then List.range (m-1-d) ++ g.prD x s m P f d else g.prL x s m P f d:=by
 conv=>lhs; unfold prL prD
 rw [show m-(d+1)=m-1-d by omega]
 split
 ·rfl
 ·exact (prL_split h).symm
theorem prD_ge:∀ {d:Nat},d≤m→∀ i ∈ g.prD x s m P f d,m-d≤i∧i<m
 | 0,_,i,hi=>by simp [prD] at hi
 | d+1,h,i,hi=>by
  unfold prD at hi
  split at hi
  ·have:=prD_ge (d:=d) (by omega) i hi; omega
  ·rcases List.mem_cons.1 hi with e | e
   ·omega
   ·have:=prD_ge (d:=d) (by omega) i e; omega
theorem rowN_in {L:List Nat} (hL:∀ i ∈ L,i<m) {k:Nat} (hk:k<L.length):0≤rowN L k∧rowN L k<m:=by
 unfold rowN
 have e:L.getD k 0=L[k]:=by simp [List.getD,hk]
 have:=hL _ (List.getElem_mem hk)
 rw [e]; omega
theorem prD_len (d:Nat):(g.prD x s m P f d).length≤d:=by
 induction d with
 | zero=>simp [prD]
 | succ d ih =>
  unfold prD
  split
  ·omega
  ·simp; omega
theorem prN_le (h:d≤m):g.prN x s m P f d≤m:=by
 have:=prD_len (m:=m) (P:=P) (g:=g) (x:=x) (s:=s) (f:=f) d
 unfold prN prL
 simp; omega
theorem del_rest (h:d<m):M.delR (m-1-d) (g.prR x s m P f d)=rowN (List.range (m-1-d) ++ g.prD x s m P f d)∧g.prN x s m P f d=(List.range (m-1-d) ++ g.prD x s m P f d).length+1∧m-1-d<g.prN x s m P f d:=by
 refine ⟨?_,?_,?_⟩
 ·funext k
  unfold M.delR prR rowN
  rw [prL_split h]
  rw [List.getD_eq_getElem?_getD,List.getD_eq_getElem?_getD,List.getD_eq_getElem?_getD]
  by_cases c:k<m-1-d
  ·rw [if_pos c,List.getElem?_append_left (by simpa using c),List.getElem?_append_left (by simpa using c)]
  ·rw [if_neg c,List.getElem?_append_right (by simp; omega),List.getElem?_append_right (by simp; omega)]
   simp only [List.length_range]
   rw [show k+1-(m-1-d)=(k-(m-1-d))+1 by omega]
   simp
 ·unfold prN; rw [prL_split h]; simp; omega
 ·unfold prN; rw [prL_split h]; simp
theorem prN_succ (h:d<m):g.prN x s m P f (d+1)=(if g.stk x s P f (g.prN x s m P f d-1) (M.delR (m-1-d) (g.prR x s m P f d))=true then g.prN x s m P f d-1 else g.prN x s m P f d) ∧
  g.prR x s m P f (d+1)=(if g.stk x s P f (g.prN x s m P f d-1) (M.delR (m-1-d) (g.prR x s m P f d))=true then M.delR (m-1-d) (g.prR x s m P f d) else g.prR x s m P f d):=by
 obtain ⟨e1,e2,-⟩:=del_rest (g:=g) (x:=x) (s:=s) (P:=P) (f:=f) h
 have e3:g.prN x s m P f d-1=(List.range (m-1-d) ++ g.prD x s m P f d).length:=by omega
 have e4:g.stk x s P f (g.prN x s m P f d-1) (M.delR (m-1-d) (g.prR x s m P f d))=g.stkL x s P f (List.range (m-1-d) ++ g.prD x s m P f d):=by
  rw [e1,e3]; rfl
 rw [e4]
 conv=>enter [1,1]; unfold prN
 conv=>enter [2,1]; unfold prR
 rw [prL_succ h]
 split
 ·exact ⟨e3.symm,e1.symm⟩
 ·exact ⟨rfl,rfl⟩
theorem rest_lt (h:d<m):∀ i ∈ List.range (m-1-d) ++ g.prD x s m P f d,i<m:=fun i hi=>by
 rcases List.mem_append.1 hi with e | e
 ·have:=List.mem_range.1 e; omega
 ·exact (prD_ge (by omega) i e).2
theorem del_in (h:d<m) {k:Nat} (hk:k<g.prN x s m P f d-1):0≤M.delR (m-1-d) (g.prR x s m P f d) k∧M.delR (m-1-d) (g.prR x s m P f d) k<m:=by
 obtain ⟨e1,e2,-⟩:=del_rest (g:=g) (x:=x) (s:=s) (P:=P) (f:=f) h
 rw [e1]
 exact rowN_in (rest_lt h) (by omega)
def stA (g:Gd) (x:Nat→Int) (s:Sc) (m:Nat) (P:Nat→Pk) (f:Int):Bool:=g.stkL x s P f (List.range m)
theorem rowN_range {m k:Nat} (h:k<m):rowN (List.range m) k=(k:Int):=by
 unfold rowN
 simp [List.getD,h]
theorem stA_eq:g.stk x s P f m (fun k=>(k:Int))=g.stA x s m P f:=by
 unfold stA stkL stk
 rw [List.length_range]
 have e:g.lft x s m (fun j=>P ((j:Int)).toNat) f=g.lft x s m (fun j=>P (rowN (List.range m) j).toNat) f:=lft_congr fun i hi=>by rw [rowN_range hi]
 rw [e]
theorem pr_zero:g.prN x s m P f 0=m∧∀ k,k<m→g.prR x s m P f 0 k=(k:Int):=by
 have e:g.prL x s m P f 0=List.range m:=by unfold prL prD; simp
 unfold prN prR
 rw [e]
 exact ⟨by simp,fun k hk=>rowN_range hk⟩
def ck1 (g:Gd) (ns:Nat) (x:Nat→Int) (s:Sc) (m:Nat) (P:Nat→Pk) (f:Int):Int:=g.ckE ns x 1 (fun _=>s) m P f
theorem ck1_ok {ns:Nat} (h:g.ck1 ns x s m P f=0):g.ok∧ns≤64∧g.all ns x∧g.Sok s∧m≤64∧(∀ i,i<m→(P i).Vd ns)∧(0≤f∧f≤8):=by
 obtain ⟨h1,h2,h3,⟨-,h4⟩,h5,h6,h7⟩:=ckE_ok.1 h
 exact ⟨h1,h2,h3,h4 0 (by omega),h5,h6,h7⟩
end Gd
end Go.Proofs.Ytoncoofmijjgeaa.M
namespace Go.Proofs.Ytoncoofmijjgeaa.Sep
open Go
set_option linter.unusedVariables false
set_option linter.unusedSimpArgs false
--#def SOME(i) XX
def e76:EntB
 | [.vec 0 1 0 n],[.row 1 m g_1]=>some ([Row 1 m g_1,m=n,1≤n,n≤100000],.vec 1 1 0 n,[.row 1 m (fun k=>[SI ((cI g_1 0) k)]),.row 1 n (fun k=>[SI ((cI g_1 0) k)])])
 | _,_=>none
def Rr76 (n m:Nat) (x:Nat→Int):Prop:=(fun (z0:Nat) (z1:Prop)=>z0<n∧(false=true→n=z0∧m≤m∧z1∧n=z0∧True)∧(false=false→z0+n≤m∧(∀ (k:Nat),k<n→true=true)∧z0≤z0∧(z0+n)*(8:Nat)≤(140737488355328:Nat)∧z0=z0∧z0+n=n∧m≤m∧z1∧n≤z0+n∧(∀ (k:Nat),k<n→(bif decide (k<z0) then (0:Int) else x (z0+(k-z0)))=x k)∧True)) (0:Nat) (∀ (k:Nat),k<m→x k=x k)
theorem r76 (n m:Nat) (x:Nat→Int):VN true [] [] Try.f76 [0,2,4] [] [.vec 0 1 0 n] [.row 1 m (fun k=>[SI (x k)])] (.vec 1 1 0 n) [.row 1 m (fun k=>[SI (x k)]),.row 1 n (fun k=>[SI (x k)])]=Rr76 n m x:=by kernel_rfl
theorem br76 (n m:Nat) (x:Nat→Int) (hp:(m=n)∧(1≤n)∧(n≤100000)∧AllP []):Rr76 n m x:=by
 unfold Rr76
 dsimp -iota -proj -eta -zeta only
 obtain ⟨rfl,h1,h2,-⟩:=id hp
 simp
 omega
theorem s76:SpecOK PP 76 e76:=by
 intro xs Hs ps res Hs1 h hp
 unfold e76 at h
 split at h
 ·rename_i n m g_1
  cases h
  simp only [AllP.cons] at hp
  obtain ⟨Hg_1,hp⟩:=hp
  exact Spec.blocks (enterNH (Hold.of (r76 n m (cI g_1 0)) (br76 n m (cI g_1 0) hp)) (.nil) (.nil) (k:=76) (by kernel_rfl) (by kernel_rfl) rfl (fun _=>.nil)) (.row Hg_1 (fun _=>rfl) .nil)
 ·cases h
def lp74o (w ht s v0 v1 d0 d1 r:Int) (ns:Nat) (x:Nat→Int) (f:Int) (zk zc zq za zb:Int) (m:Nat) (pk ps pa pb pc pd:Nat→Int) (nl:Nat) (l:Nat→Int):LoopS where
 ι:=Nat
 β:=Unit
 pre i:=i≤nl∧nl≤64∧(∀ k,k<nl→0≤l k∧l k<m)
 μ i:=nl-i
 next i _ _ _:=i+1
 out _:=()
 early _:=false
 SA i:=[(2,.sl 6 m (fun j=>[SI (pk j),SI (ps j),SI (pa j),SI (pb j),SI (pc j),SI (pd j)])),(4,.ptr 1 0),(5,.ptr 2 0),(9,.vec 3 6 0 i),(14,.vec 0 1 0 nl),(15,SI nl),(16,SI i)]
 SH i:=[(0,.row 1 nl (fun k=>[SI (l k)])),(1,.cells [SI w,SI ht,SI s,SI v0,SI v1,SI d0,SI d1,SI r,.sl 1 ns (fun k=>[SI (x k)]),SI f]),(2,.cells [SI zk,SI zc,SI zq,SI za,SI zb]),(3,.row 6 i (fun k=>[SI (pk (l k).toNat),SI (ps (l k).toNat),SI (pa (l k).toNat),SI (pb (l k).toNat),SI (pc (l k).toNat),SI (pd (l k).toNat)]))]
 n0:=4
 NA _:=[(4,.ptr 1 0),(5,.ptr 2 0),(9,.vec 3 6 0 nl)]
 NH _:=[(0,.row 1 nl (fun k=>[SI (l k)])),(1,.cells [SI w,SI ht,SI s,SI v0,SI v1,SI d0,SI d1,SI r,.sl 1 ns (fun k=>[SI (x k)]),SI f]),(2,.cells [SI zk,SI zc,SI zq,SI za,SI zb]),(3,.row 6 nl (fun k=>[SI (pk (l k).toNat),SI (ps (l k).toNat),SI (pa (l k).toNat),SI (pb (l k).toNat),SI (pc (l k).toNat),SI (pd (l k).toNat)]))]
 n1:=4
 RA _:=[]
 RH _:=[]
def Rq74o (w ht s v0 v1 d0 d1 r:Int) (ns:Nat) (x:Nat→Int) (f:Int) (zk zc zq za zb:Int) (m:Nat) (pk ps pa pb pc pd:Nat→Int) (nl:Nat) (l:Nat→Int) (i:Nat):Prop:=(fun (z3 z5:Int) (z2 z6:Nat) (z4 z7:Prop)=>(fun (z0:Nat)=>(fun (z1:Nat)=>(decide (z3<z5)=true→(0:Int)≤z3∧z3<z5∧z0<nl∧(0:Int)≤l z0∧l z0<(↑m:Int)∧z1<m∧z6+(1:Nat)≤(1:Nat)∧(∀ (k:Nat),k<(1:Nat)→true=true)∧i≤i∧z2*(48:Nat)≤(140737488355328:Nat)∧R64 (z3+(1:Int))∧(z2≤nl∧nl≤(64:Nat)∧∀ (k:Nat),k<nl→(0:Int)≤l k∧l k<(↑m:Int))∧nl-z2<nl-i∧()=()∧(m=m∧∀ (k:Nat),k<m→pk k=pk k∧ps k=ps k∧pa k=pa k∧pb k=pb k∧pc k=pc k∧pd k=pd k)∧z6=z6∧z2=z2∧z6=z6∧nl=nl∧z5=z5∧z3+(1:Int)=(↑z2:Int)∧nl≤nl∧z7∧w=w∧ht=ht∧s=s∧v0=v0∧v1=v1∧d0=d0∧d1=d1∧r=r∧z4∧f=f∧zk=zk∧zc=zc∧zq=zq∧za=za∧zb=zb∧z2≤z2∧(∀ (k:Nat),k<z2→(bif decide (k<i) then pk (Int.toNat (l k)) else pk z1)=pk (Int.toNat (l k))∧(bif decide (k<i) then ps (Int.toNat (l k)) else ps z1)=ps (Int.toNat (l k))∧(bif decide (k<i) then pa (Int.toNat (l k)) else pa z1)=pa (Int.toNat (l k))∧(bif decide (k<i) then pb (Int.toNat (l k)) else pb z1)=pb (Int.toNat (l k))∧(bif decide (k<i) then pc (Int.toNat (l k)) else pc z1)=pc (Int.toNat (l k))∧(bif decide (k<i) then pd (Int.toNat (l k)) else pd z1)=pd (Int.toNat (l k)))∧True)∧(decide (z3<z5)=false→false=false∧z6=z6∧i=nl∧nl≤nl∧z7∧w=w∧ht=ht∧s=s∧v0=v0∧v1=v1∧d0=d0∧d1=d1∧r=r∧z4∧f=f∧zk=zk∧zc=zc∧zq=zq∧za=za∧zb=zb∧nl≤i∧(∀ (k:Nat),k<nl→pk (Int.toNat (l k))=pk (Int.toNat (l k))∧ps (Int.toNat (l k))=ps (Int.toNat (l k))∧pa (Int.toNat (l k))=pa (Int.toNat (l k))∧pb (Int.toNat (l k))=pb (Int.toNat (l k))∧pc (Int.toNat (l k))=pc (Int.toNat (l k))∧pd (Int.toNat (l k))=pd (Int.toNat (l k)))∧True)) (Int.toNat (l z0))) (z6+Int.toNat z3)) (↑i:Int) (↑nl:Int) (i+(1:Nat)) (0:Nat) (ns=ns∧∀ (k:Nat),k<ns→x k=x k) (∀ (k:Nat),k<nl→l k=l k)
theorem q74o (w ht s v0 v1 d0 d1 r:Int) (ns:Nat) (x:Nat→Int) (f:Int) (zk zc zq za zb:Int) (m:Nat) (pk ps pa pb pc pd:Nat→Int) (nl:Nat) (l:Nat→Int) (i:Nat):VL true [] [] YS.none Try.f74 1 [0,1,2,3,4,5,8,9,11,13,14,15,16,17] [] 0 (lp74o w ht s v0 v1 d0 d1 r ns x f zk zc zq za zb m pk ps pa pb pc pd nl l) (i)=Rq74o w ht s v0 v1 d0 d1 r ns x f zk zc zq za zb m pk ps pa pb pc pd nl l i:=by kernel_rfl
theorem peq74o (w ht s v0 v1 d0 d1 r:Int) (ns:Nat) (x:Nat→Int) (f:Int) (zk zc zq za zb:Int) (m:Nat) (pk ps pa pb pc pd:Nat→Int) (nl:Nat) (l:Nat→Int) (i:Nat):(lp74o w ht s v0 v1 d0 d1 r ns x f zk zc zq za zb m pk ps pa pb pc pd nl l).pre (i)=(i≤nl∧nl≤(64:Nat)∧∀ (k:Nat),k<nl→(0:Int)≤l k∧l k<(↑m:Int)):=by kernel_rfl
theorem bq74o (w ht s v0 v1 d0 d1 r:Int) (ns:Nat) (x:Nat→Int) (f:Int) (zk zc zq za zb:Int) (m:Nat) (pk ps pa pb pc pd:Nat→Int) (nl:Nat) (l:Nat→Int) (i:Nat) (hp:i≤nl∧nl≤(64:Nat)∧∀ (k:Nat),k<nl→(0:Int)≤l k∧l k<(↑m:Int)):Rq74o w ht s v0 v1 d0 d1 r ns x f zk zc zq za zb m pk ps pa pb pc pd nl l i:=by
 unfold Rq74o
 dsimp -iota -proj -eta -zeta only
 obtain ⟨h1,h2,hL⟩:=id hp
 have r1:R64 ((i:Int)+1):=by unfold R64; omega
 simp only [Int.toNat_natCast,Nat.zero_add,r1]
 by_cases hl:i<nl
 ·have hl':(i:Int)<nl:=by omega
  obtain ⟨l1,l2⟩:=hL i hl
  have l3:(l i).toNat<m:=by omega
  have e3:∀ (z:Nat→Int) (k:Nat),k<i+1→(bif decide (k<i) then z (l k).toNat else z (l i).toNat)=z (l k).toNat:=fun z k hk2=>by
   by_cases d1:k<i
   ·simp [d1]
   ·have:k=i:=by omega
    subst this; simp
  simp [hl,hl',l1,l2,l3,h2]
  repeat' apply And.intro
  all_goals first | omega | exact hL | exact fun k hk2=>⟨e3 pk k hk2,e3 ps k hk2,e3 pa k hk2,e3 pb k hk2,e3 pc k hk2,e3 pd k hk2⟩
 ·have e:i=nl:=by omega
  subst e
  simp
theorem t74o (w ht s v0 v1 d0 d1 r:Int) (ns:Nat) (x:Nat→Int) (f:Int) (zk zc zq za zb:Int) (m:Nat) (pk ps pa pb pc pd:Nat→Int) (nl:Nat) (l:Nat→Int) {F:Fence} (hF:FOK F) (Y:YEnv PP YS.none):∀ Q A H nx,loopT false Try.f74.ntmps 1 (lp74o w ht s v0 v1 d0 d1 r ns x f zk zc zq za zb m pk ps pa pb pc pd nl l) (fun _ _ _=>(0:Nat)) Q A H nx→WPS Y F Try.f74.ntmps 1 (.block 0 (blkAt 0 Try.f74)) Q A H nx :=
 loopW (E:=[]) (.nil) (O:=[]) (.nil) (ck:=true) (L:=[0,1,2,3,4,5,8,9,11,13,14,15,16,17]) (f:=Try.f74) (m:=1) (id:=0) (l:=(lp74o w ht s v0 v1 d0 d1 r ns x f zk zc zq za zb m pk ps pa pb pc pd nl l)) (LI:=fun i=>[]) Y hF (by kernel_rfl) (fun _=>.nil) (by
  rintro i hp
  exact Hold.of (q74o w ht s v0 v1 d0 d1 r ns x f zk zc zq za zb m pk ps pa pb pc pd nl l i) (bq74o w ht s v0 v1 d0 d1 r ns x f zk zc zq za zb m pk ps pa pb pc pd nl l i ((peq74o w ht s v0 v1 d0 d1 r ns x f zk zc zq za zb m pk ps pa pb pc pd nl l i).mp hp)))
def e74o:EntB
 | [.agg [.int .i64 w,.int .i64 ht,.int .i64 s,.int .i64 v0,.int .i64 v1,.int .i64 d0,.int .i64 d1,.int .i64 r,.sl 1 ns g_1,.int .i64 f],.agg [.int .i64 zk,.int .i64 zc,.int .i64 zq,.int .i64 za,.int .i64 zb],.sl 6 m g_2,.vec 0 1 0 nl],[.row 1 nm g_3]=>some ([Row 1 ns g_1,Row 6 m g_2,Row 1 nm g_3,M.Gd.ok (M.Gd.mk w ht s v0 v1 d0 d1 r),M.Gd.all (M.Gd.mk w ht s v0 v1 d0 d1 r) ns (cI g_1 0),ns≤64,M.Gd.Sok (M.Gd.mk w ht s v0 v1 d0 d1 r) (M.Sc.mk zk zc zq za zb),(∀ i,i<m→M.Pk.Vd ns ((fun i=>M.Pk.mk ((cI g_2 0) i) ((cI g_2 1) i) ((cI g_2 2) i) ((cI g_2 3) i) ((cI g_2 4) i) ((cI g_2 5) i)) i)),m≤64,0≤f,f≤8,nl≤64,(∀ k,k<nl→0≤(cI g_3 0) k∧(cI g_3 0) k<m),nl=nm],.bool (M.Gd.stk (M.Gd.mk w ht s v0 v1 d0 d1 r) (cI g_1 0) (M.Sc.mk zk zc zq za zb) (fun i=>M.Pk.mk ((cI g_2 0) i) ((cI g_2 1) i) ((cI g_2 2) i) ((cI g_2 3) i) ((cI g_2 4) i) ((cI g_2 5) i)) f nl (cI g_3 0)),[.row 1 nm (fun k=>[SI ((cI g_3 0) k)])])
 | _,_=>none
def Rr74o (w ht s v0 v1 d0 d1 r:Int) (ns:Nat) (x:Nat→Int) (f:Int) (zk zc zq za zb:Int) (m:Nat) (pk ps pa pb pc pd:Nat→Int) (nm:Nat) (nl:Nat) (l:Nat→Int):Prop:=(fun (z2:Bool) (z1:M.Gd) (z3:M.Sc) (z0:Nat) (z4:Prop)=>(z0≤nl∧nl≤(64:Nat)∧∀ (k:Nat),k<nl→(0:Int)≤l k∧l k<(↑m:Int))∧((m=m∧∀ (k:Nat),k<m→pk k=pk k∧ps k=ps k∧pa k=pa k∧pb k=pb k∧pc k=pc k∧pd k=pd k)∧z0=z0∧z0=z0∧nl=nl∧(↑nl:Int)=(↑nl:Int)∧(0:Int)=(↑z0:Int)∧nl≤nm∧(∀ (k:Nat),k<nl→l k=l k)∧w=w∧ht=ht∧s=s∧v0=v0∧v1=v1∧d0=d0∧d1=d1∧r=r∧(ns=ns∧z4)∧f=f∧zk=zk∧zc=zc∧zq=zq∧za=za∧zb=zb∧z0=z0∧True)∧(false=false→z0+nl≤nl∧z4∧(∀ (k:Nat),k<nl→pk (Int.toNat (l (z0+k)))=pk (Int.toNat (l (z0+k)))∧ps (Int.toNat (l (z0+k)))=ps (Int.toNat (l (z0+k)))∧pa (Int.toNat (l (z0+k)))=pa (Int.toNat (l (z0+k)))∧pb (Int.toNat (l (z0+k)))=pb (Int.toNat (l (z0+k)))∧pc (Int.toNat (l (z0+k)))=pc (Int.toNat (l (z0+k)))∧pd (Int.toNat (l (z0+k)))=pd (Int.toNat (l (z0+k))))∧M.Gd.ok z1∧M.Gd.all z1 ns x∧ns≤(64:Nat)∧M.Gd.Sok z1 z3∧(∀ (i:Nat),i<nl→M.Pk.Vd ns (M.Pk.mk (pk (Int.toNat (l (z0+i)))) (ps (Int.toNat (l (z0+i)))) (pa (Int.toNat (l (z0+i)))) (pb (Int.toNat (l (z0+i)))) (pc (Int.toNat (l (z0+i)))) (pd (Int.toNat (l (z0+i))))))∧nl≤(64:Nat)∧(0:Int)≤f∧f≤(8:Int)∧(z2=true→z2=true)∧(z2=true→z2=true)∧(nm≤nl∧∀ (k:Nat),k<nm→l k=l k)∧(bif z2 then !(M.Gd.lft z1 x z3 nl (fun i=>M.Pk.mk (pk (Int.toNat (l (z0+i)))) (ps (Int.toNat (l (z0+i)))) (pa (Int.toNat (l (z0+i)))) (pb (Int.toNat (l (z0+i)))) (pc (Int.toNat (l (z0+i)))) (pd (Int.toNat (l (z0+i))))) f).1 else false)=M.Gd.stk z1 x z3 (fun i=>M.Pk.mk (pk i) (ps i) (pa i) (pb i) (pc i) (pd i)) f nl l)∧(false=true→False)) (decide (zk=(1:Int))) (M.Gd.mk w ht s v0 v1 d0 d1 r) (M.Sc.mk zk zc zq za zb) (0:Nat) (∀ (k:Nat),k<ns→x k=x k)
theorem r74o (w ht s v0 v1 d0 d1 r:Int) (ns:Nat) (x:Nat→Int) (f:Int) (zk zc zq za zb:Int) (m:Nat) (pk ps pa pb pc pd:Nat→Int) (nm:Nat) (nl:Nat) (l:Nat→Int):VB true [] [(90,pureE e90)] Try.f74 [0,1,2,3,4,5,8,9,11,13,14,15,16,17] [(0,loopT false Try.f74.ntmps 1 (lp74o w ht s v0 v1 d0 d1 r ns x f zk zc zq za zb m pk ps pa pb pc pd nl l) (fun _ _ _=>(0:Nat)))] [.agg [SI w,SI ht,SI s,SI v0,SI v1,SI d0,SI d1,SI r,.sl 1 ns (fun k=>[SI (x k)]),SI f],.agg [SI zk,SI zc,SI zq,SI za,SI zb],.sl 6 m (fun k=>[SI (pk k),SI (ps k),SI (pa k),SI (pb k),SI (pc k),SI (pd k)]),.vec 0 1 0 nl] [.row 1 nm (fun k=>[SI (l k)])] (.bool (M.Gd.stk (M.Gd.mk w ht s v0 v1 d0 d1 r) x (M.Sc.mk zk zc zq za zb) (fun i=>M.Pk.mk (pk i) (ps i) (pa i) (pb i) (pc i) (pd i)) f nl l)) [.row 1 nm (fun k=>[SI (l k)])]=Rr74o w ht s v0 v1 d0 d1 r ns x f zk zc zq za zb m pk ps pa pb pc pd nm nl l:=by kernel_rfl
theorem br74o (w ht s v0 v1 d0 d1 r:Int) (ns:Nat) (x:Nat→Int) (f:Int) (zk zc zq za zb:Int) (m:Nat) (pk ps pa pb pc pd:Nat→Int) (nm:Nat) (nl:Nat) (l:Nat→Int) (hp:(M.Gd.ok (M.Gd.mk w ht s v0 v1 d0 d1 r))∧(M.Gd.all (M.Gd.mk w ht s v0 v1 d0 d1 r) ns x)∧(ns≤64)∧(M.Gd.Sok (M.Gd.mk w ht s v0 v1 d0 d1 r) (M.Sc.mk zk zc zq za zb))∧((∀ i,i<m→M.Pk.Vd ns ((fun i=>M.Pk.mk (pk i) (ps i) (pa i) (pb i) (pc i) (pd i)) i)))∧(m≤64)∧(0≤f)∧(f≤8)∧(nl≤64)∧((∀ k,k<nl→0≤l k∧l k<m))∧(nl=nm)∧AllP []):Rr74o w ht s v0 v1 d0 d1 r ns x f zk zc zq za zb m pk ps pa pb pc pd nm nl l:=by
 unfold Rr74o
 dsimp -iota -proj -eta -zeta only
 obtain ⟨hk,ha,hn,hz,hP,hm,f1,f2,h1,hL,rfl,-⟩:=id hp
 have hP2:∀ i,i<nl→M.Pk.Vd ns ((fun i=>M.Pk.mk (pk i) (ps i) (pa i) (pb i) (pc i) (pd i)) (l i).toNat):=fun i hi=>by
  have:=hL i hi
  exact hP (l i).toNat (by omega)
 have e0:M.Gd.stk (M.Gd.mk w ht s v0 v1 d0 d1 r) x (M.Sc.mk zk zc zq za zb) (fun i=>M.Pk.mk (pk i) (ps i) (pa i) (pb i) (pc i) (pd i)) f nl l=(decide (zk=1) && !(M.Gd.lft (M.Gd.mk w ht s v0 v1 d0 d1 r) x (M.Sc.mk zk zc zq za zb) nl (fun j=>(fun i=>M.Pk.mk (pk i) (ps i) (pa i) (pb i) (pc i) (pd i)) (l j).toNat) f).1):=rfl
 simp only [e0,Nat.zero_add]
 obtain ⟨u,hu⟩ : ∃ u,u=(M.Gd.lft (M.Gd.mk w ht s v0 v1 d0 d1 r) x (M.Sc.mk zk zc zq za zb) nl (fun j=>(fun i=>M.Pk.mk (pk i) (ps i) (pa i) (pb i) (pc i) (pd i)) (l j).toNat) f):=⟨_,rfl⟩
 simp only [← hu]
 by_cases c:zk=1
 ·subst c
  simp [hk,ha,hn,hz,h1,f1,f2]
  exact ⟨hL,hP2⟩
 ·simp [hk,ha,hn,hz,h1,f1,f2,c]
  exact ⟨hL,hP2⟩
theorem s74o:SpecOK PP 74 e74o:=by
 intro xs Hs ps res Hs1 h hp
 unfold e74o at h
 split at h
 ·rename_i w ht s v0 v1 d0 d1 r ns g_1 f zk zc zq za zb m g_2 nl nm g_3
  cases h
  simp only [AllP.cons] at hp
  obtain ⟨Hg_1,Hg_2,Hg_3,hp⟩:=hp
  exact Spec.args (Spec.blocks (enterBH (Hold.of (r74o w ht s v0 v1 d0 d1 r ns (cI g_1 0) f zk zc zq za zb m (cI g_2 0) (cI g_2 1) (cI g_2 2) (cI g_2 3) (cI g_2 4) (cI g_2 5) nm nl (cI g_3 0)) (br74o w ht s v0 v1 d0 d1 r ns (cI g_1 0) f zk zc zq za zb m (cI g_2 0) (cI g_2 1) (cI g_2 2) (cI g_2 3) (cI g_2 4) (cI g_2 5) nm nl (cI g_3 0) hp)) (.nil) (.cons (pureE_ok s90) (.nil)) (k:=74) (by kernel_rfl) (by kernel_rfl) rfl (fun Y=>.cons (by kernel_rfl) (t74o w ht s v0 v1 d0 d1 r ns (cI g_1 0) f zk zc zq za zb m (cI g_2 0) (cI g_2 1) (cI g_2 2) (cI g_2 3) (cI g_2 4) (cI g_2 5) nl (cI g_3 0) FOK.wide Y) (.nil))) (.row Hg_3 (fun _=>rfl) .nil)) (.cons (.agg (.cons (.refl _) (.cons (.refl _) (.cons (.refl _) (.cons (.refl _) (.cons (.refl _) (.cons (.refl _) (.cons (.refl _) (.cons (.refl _) (.cons (.row Hg_1 fun _=>rfl) (.cons (.refl _) .nil))))))))))) (.cons (.refl _) (.cons (.row Hg_2 fun _=>rfl) (.cons (.refl _) .nil))))
 ·cases h
def e73:EntB
 | [.vec 0 1 0 nl,.ptr 1 0,.ptr 2 0,.ptr 3 0],[.row 1 nm g_1,.cells [.int .i64 w,.int .i64 ht,.int .i64 s,.int .i64 v0,.int .i64 v1,.int .i64 d0,.int .i64 d1,.int .i64 r,.sl 1 ns g_2,.int .i64 f],.cells [.int .i64 zk,.int .i64 zc,.int .i64 zq,.int .i64 za,.int .i64 zb],.cells [.sl 6 m g_3]]=>some ([Row 1 nm g_1,Row 1 ns g_2,Row 6 m g_3,M.Gd.ok (M.Gd.mk w ht s v0 v1 d0 d1 r),M.Gd.all (M.Gd.mk w ht s v0 v1 d0 d1 r) ns (cI g_2 0),ns≤64,M.Gd.Sok (M.Gd.mk w ht s v0 v1 d0 d1 r) (M.Sc.mk zk zc zq za zb),(∀ i,i<m→M.Pk.Vd ns ((fun i=>M.Pk.mk ((cI g_3 0) i) ((cI g_3 1) i) ((cI g_3 2) i) ((cI g_3 3) i) ((cI g_3 4) i) ((cI g_3 5) i)) i)),m≤64,0≤f,f≤8,nl≤64,(∀ k,k<nl→0≤(cI g_1 0) k∧(cI g_1 0) k<m),nl=nm],.bool (M.Gd.stk (M.Gd.mk w ht s v0 v1 d0 d1 r) (cI g_2 0) (M.Sc.mk zk zc zq za zb) (fun i=>M.Pk.mk ((cI g_3 0) i) ((cI g_3 1) i) ((cI g_3 2) i) ((cI g_3 3) i) ((cI g_3 4) i) ((cI g_3 5) i)) f nl (cI g_1 0)),[.row 1 nm (fun k=>[SI ((cI g_1 0) k)]),.cells [SI w,SI ht,SI s,SI v0,SI v1,SI d0,SI d1,SI r,.sl 1 ns (fun k=>[SI ((cI g_2 0) k)]),SI f],.cells [SI zk,SI zc,SI zq,SI za,SI zb],.cells [.sl 6 m (fun k=>[SI ((cI g_3 0) k),SI ((cI g_3 1) k),SI ((cI g_3 2) k),SI ((cI g_3 3) k),SI ((cI g_3 4) k),SI ((cI g_3 5) k)])]])
 | _,_=>none
def Rr73 (w ht s v0 v1 d0 d1 r:Int) (ns:Nat) (x:Nat→Int) (f:Int) (zk zc zq za zb:Int) (m:Nat) (pk ps pa pb pc pd:Nat→Int) (nm:Nat) (nl:Nat) (l:Nat→Int):Prop:=(fun (z2:M.Gd) (z1 z3 z4:Prop)=>(fun (z0:Bool)=>z3∧z1∧z4∧M.Gd.ok z2∧M.Gd.all z2 ns x∧ns≤(64:Nat)∧M.Gd.Sok z2 (M.Sc.mk zk zc zq za zb)∧(∀ (i:Nat),i<m→M.Pk.Vd ns (M.Pk.mk (pk i) (ps i) (pa i) (pb i) (pc i) (pd i)))∧m≤(64:Nat)∧(0:Int)≤f∧f≤(8:Int)∧nl≤(64:Nat)∧(∀ (k:Nat),k<nl→(0:Int)≤l k∧l k<(↑m:Int))∧nl=nm∧(nm≤nm∧z4)∧(w=w∧ht=ht∧s=s∧v0=v0∧v1=v1∧d0=d0∧d1=d1∧r=r∧(ns=ns∧z3)∧f=f)∧(zk=zk∧zc=zc∧zq=zq∧za=za∧zb=zb)∧(m=m∧z1)∧z0=z0) (M.Gd.stk z2 x (M.Sc.mk zk zc zq za zb) (fun i=>M.Pk.mk (pk i) (ps i) (pa i) (pb i) (pc i) (pd i)) f nl l)) (M.Gd.mk w ht s v0 v1 d0 d1 r) (∀ (k:Nat),k<m→pk k=pk k∧ps k=ps k∧pa k=pa k∧pb k=pb k∧pc k=pc k∧pd k=pd k) (∀ (k:Nat),k<ns→x k=x k) (∀ (k:Nat),k<nm→l k=l k)
theorem r73 (w ht s v0 v1 d0 d1 r:Int) (ns:Nat) (x:Nat→Int) (f:Int) (zk zc zq za zb:Int) (m:Nat) (pk ps pa pb pc pd:Nat→Int) (nm:Nat) (nl:Nat) (l:Nat→Int):VB true [] [(74,specW e74o)] Try.f73 [0,1,2,3,5] [] [.vec 0 1 0 nl,.ptr 1 0,.ptr 2 0,.ptr 3 0] [.row 1 nm (fun k=>[SI (l k)]),.cells [SI w,SI ht,SI s,SI v0,SI v1,SI d0,SI d1,SI r,.sl 1 ns (fun k=>[SI (x k)]),SI f],.cells [SI zk,SI zc,SI zq,SI za,SI zb],.cells [.sl 6 m (fun k=>[SI (pk k),SI (ps k),SI (pa k),SI (pb k),SI (pc k),SI (pd k)])]] (.bool (M.Gd.stk (M.Gd.mk w ht s v0 v1 d0 d1 r) x (M.Sc.mk zk zc zq za zb) (fun i=>M.Pk.mk (pk i) (ps i) (pa i) (pb i) (pc i) (pd i)) f nl l)) [.row 1 nm (fun k=>[SI (l k)]),.cells [SI w,SI ht,SI s,SI v0,SI v1,SI d0,SI d1,SI r,.sl 1 ns (fun k=>[SI (x k)]),SI f],.cells [SI zk,SI zc,SI zq,SI za,SI zb],.cells [.sl 6 m (fun k=>[SI (pk k),SI (ps k),SI (pa k),SI (pb k),SI (pc k),SI (pd k)])]]=Rr73 w ht s v0 v1 d0 d1 r ns x f zk zc zq za zb m pk ps pa pb pc pd nm nl l:=by kernel_rfl
theorem br73 (w ht s v0 v1 d0 d1 r:Int) (ns:Nat) (x:Nat→Int) (f:Int) (zk zc zq za zb:Int) (m:Nat) (pk ps pa pb pc pd:Nat→Int) (nm:Nat) (nl:Nat) (l:Nat→Int) (hp:(M.Gd.ok (M.Gd.mk w ht s v0 v1 d0 d1 r))∧(M.Gd.all (M.Gd.mk w ht s v0 v1 d0 d1 r) ns x)∧(ns≤64)∧(M.Gd.Sok (M.Gd.mk w ht s v0 v1 d0 d1 r) (M.Sc.mk zk zc zq za zb))∧((∀ i,i<m→M.Pk.Vd ns ((fun i=>M.Pk.mk (pk i) (ps i) (pa i) (pb i) (pc i) (pd i)) i)))∧(m≤64)∧(0≤f)∧(f≤8)∧(nl≤64)∧((∀ k,k<nl→0≤l k∧l k<m))∧(nl=nm)∧AllP []):Rr73 w ht s v0 v1 d0 d1 r ns x f zk zc zq za zb m pk ps pa pb pc pd nm nl l:=by
 unfold Rr73
 dsimp -iota -proj -eta -zeta only
 obtain ⟨hk,ha,hn,hz,hP,hm,f1,f2,h1,hL,rfl,-⟩:=id hp
 simp [hk,ha,hn,hz,hm,f1,f2,h1]
 exact ⟨hP,hL⟩
theorem s73:SpecOK PP 73 e73:=by
 intro xs Hs ps res Hs1 h hp
 unfold e73 at h
 split at h
 ·rename_i nl nm g_1 w ht s v0 v1 d0 d1 r ns g_2 f zk zc zq za zb m g_3
  cases h
  simp only [AllP.cons] at hp
  obtain ⟨Hg_1,Hg_2,Hg_3,hp⟩:=hp
  exact Spec.blocks (enterBH (Hold.of (r73 w ht s v0 v1 d0 d1 r ns (cI g_2 0) f zk zc zq za zb m (cI g_3 0) (cI g_3 1) (cI g_3 2) (cI g_3 3) (cI g_3 4) (cI g_3 5) nm nl (cI g_1 0)) (br73 w ht s v0 v1 d0 d1 r ns (cI g_2 0) f zk zc zq za zb m (cI g_3 0) (cI g_3 1) (cI g_3 2) (cI g_3 3) (cI g_3 4) (cI g_3 5) nm nl (cI g_1 0) hp)) (.nil) (.cons (specW_ok s74o) (.nil)) (k:=73) (by kernel_rfl) (by kernel_rfl) rfl (fun _=>.nil)) (.row Hg_1 (fun _=>rfl) (.cells (.cons (.refl _) (.cons (.refl _) (.cons (.refl _) (.cons (.refl _) (.cons (.refl _) (.cons (.refl _) (.cons (.refl _) (.cons (.refl _) (.cons (.row Hg_2 fun _=>rfl) (.cons (.refl _) .nil)))))))))) (.same (.cells (.cons (.row Hg_3 fun _=>rfl) .nil) .nil))))
 ·cases h
def lp30a (w ht s v0 v1 d0 d1 r:Int) (ns:Nat) (x:Nat→Int) (f:Int) (zk zc zq za zb:Int) (m:Nat) (pk ps pa pb pc pd:Nat→Int):LoopS where
 ι:=Nat
 β:=Unit
 pre i:=i≤m∧m≤64
 μ i:=m-i
 next i _ _ _:=i+1
 out _:=()
 early _:=false
 SA i:=[(7,.ptr 0 0),(8,.ptr 1 0),(13,.ptr 2 0),(15,.vec 3 1 0 i),(33,SI m),(34,SI i)]
 SH i:=[(0,.cells [SI zk,SI zc,SI zq,SI za,SI zb]),(1,.cells [.sl 6 m (fun j=>[SI (pk j),SI (ps j),SI (pa j),SI (pb j),SI (pc j),SI (pd j)])]),(2,.cells [SI w,SI ht,SI s,SI v0,SI v1,SI d0,SI d1,SI r,.sl 1 ns (fun k=>[SI (x k)]),SI f]),(3,.row 1 i (fun k=>[SI (k:Int)]))]
 n0:=4
 NA _:=[(7,.ptr 0 0),(8,.ptr 1 0),(13,.ptr 2 0),(15,.vec 3 1 0 m)]
 NH _:=[(0,.cells [SI zk,SI zc,SI zq,SI za,SI zb]),(1,.cells [.sl 6 m (fun j=>[SI (pk j),SI (ps j),SI (pa j),SI (pb j),SI (pc j),SI (pd j)])]),(2,.cells [SI w,SI ht,SI s,SI v0,SI v1,SI d0,SI d1,SI r,.sl 1 ns (fun k=>[SI (x k)]),SI f]),(3,.row 1 m (fun k=>[SI (k:Int)]))]
 n1:=4
 RA _:=[]
 RH _:=[]
def Rq30a (w ht s v0 v1 d0 d1 r:Int) (ns:Nat) (x:Nat→Int) (f:Int) (zk zc zq za zb:Int) (m:Nat) (pk ps pa pb pc pd:Nat→Int) (i:Nat):Prop:=(fun (z3 z4:Int) (z1:Nat) (z0 z2:Prop)=>(decide (z3<z4)=true→(0:Nat)+(1:Nat)≤(1:Nat)∧(∀ (k:Nat),k<(1:Nat)→true=true)∧i≤i∧z1*(8:Nat)≤(140737488355328:Nat)∧R64 (z3+(1:Int))∧(z1≤m∧m≤(64:Nat))∧m-z1<m-i∧()=()∧(0:Nat)=(0:Nat)∧z1=z1∧z4=z4∧z3+(1:Int)=(↑z1:Int)∧zk=zk∧zc=zc∧zq=zq∧za=za∧zb=zb∧z0∧w=w∧ht=ht∧s=s∧v0=v0∧v1=v1∧d0=d0∧d1=d1∧r=r∧z2∧f=f∧z1≤z1∧(∀ (k:Nat),k<z1→(bif decide (k<i) then (↑k:Int) else z3)=(↑k:Int))∧True)∧(decide (z3<z4)=false→false=false∧(0:Nat)=(0:Nat)∧i=m∧zk=zk∧zc=zc∧zq=zq∧za=za∧zb=zb∧z0∧w=w∧ht=ht∧s=s∧v0=v0∧v1=v1∧d0=d0∧d1=d1∧r=r∧z2∧f=f∧m≤i∧(∀ (k:Nat),k<m→(↑k:Int)=(↑k:Int))∧True)) (↑i:Int) (↑m:Int) (i+(1:Nat)) (m=m∧∀ (k:Nat),k<m→pk k=pk k∧ps k=ps k∧pa k=pa k∧pb k=pb k∧pc k=pc k∧pd k=pd k) (ns=ns∧∀ (k:Nat),k<ns→x k=x k)
theorem q30a (w ht s v0 v1 d0 d1 r:Int) (ns:Nat) (x:Nat→Int) (f:Int) (zk zc zq za zb:Int) (m:Nat) (pk ps pa pb pc pd:Nat→Int) (i:Nat):VL true [] [] YS.none Try.f30 0 [0,1,2,3,4,5,7,8,10,11,12,13,14,15,16,17,18,19,30,33,34,35,46,51,62] [] 0 (lp30a w ht s v0 v1 d0 d1 r ns x f zk zc zq za zb m pk ps pa pb pc pd) (i)=Rq30a w ht s v0 v1 d0 d1 r ns x f zk zc zq za zb m pk ps pa pb pc pd i:=by kernel_rfl
theorem peq30a (w ht s v0 v1 d0 d1 r:Int) (ns:Nat) (x:Nat→Int) (f:Int) (zk zc zq za zb:Int) (m:Nat) (pk ps pa pb pc pd:Nat→Int) (i:Nat):(lp30a w ht s v0 v1 d0 d1 r ns x f zk zc zq za zb m pk ps pa pb pc pd).pre (i)=(i≤m∧m≤(64:Nat)):=by kernel_rfl
theorem bq30a (w ht s v0 v1 d0 d1 r:Int) (ns:Nat) (x:Nat→Int) (f:Int) (zk zc zq za zb:Int) (m:Nat) (pk ps pa pb pc pd:Nat→Int) (i:Nat) (hp:i≤m∧m≤(64:Nat)):Rq30a w ht s v0 v1 d0 d1 r ns x f zk zc zq za zb m pk ps pa pb pc pd i:=by
 unfold Rq30a
 dsimp -iota -proj -eta -zeta only
 obtain ⟨h1,h2⟩:=id hp
 have r1:R64 ((i:Int)+1):=by unfold R64; omega
 simp only [r1]
 by_cases hl:i<m
 ·have hl':(i:Int)<m:=by omega
  have e3:∀ k,k<i+1→(bif decide (k<i) then (k:Int) else (i:Int))=k:=fun k hk2=>by
   by_cases d1:k<i
   ·simp [d1]
   ·have:k=i:=by omega
    subst this; simp
  simp [hl,hl',h2]
  repeat' apply And.intro
  all_goals first | omega | exact fun k hk2=>by simpa using e3 k hk2
 ·have e:i=m:=by omega
  subst e
  simp
theorem t30a (w ht s v0 v1 d0 d1 r:Int) (ns:Nat) (x:Nat→Int) (f:Int) (zk zc zq za zb:Int) (m:Nat) (pk ps pa pb pc pd:Nat→Int) {F:Fence} (hF:FOK F) (Y:YEnv PP YS.none):∀ Q A H nx,loopT false Try.f30.ntmps 0 (lp30a w ht s v0 v1 d0 d1 r ns x f zk zc zq za zb m pk ps pa pb pc pd) (fun _ _ _=>(0:Nat)) Q A H nx→WPS Y F Try.f30.ntmps 0 (.block 0 (blkAt 0 Try.f30)) Q A H nx :=
 loopW (E:=[]) (.nil) (O:=[]) (.nil) (ck:=true) (L:=[0,1,2,3,4,5,7,8,10,11,12,13,14,15,16,17,18,19,30,33,34,35,46,51,62]) (f:=Try.f30) (m:=0) (id:=0) (l:=(lp30a w ht s v0 v1 d0 d1 r ns x f zk zc zq za zb m pk ps pa pb pc pd)) (LI:=fun i=>[]) Y hF (by kernel_rfl) (fun _=>.nil) (by
  rintro i hp
  exact Hold.of (q30a w ht s v0 v1 d0 d1 r ns x f zk zc zq za zb m pk ps pa pb pc pd i) (bq30a w ht s v0 v1 d0 d1 r ns x f zk zc zq za zb m pk ps pa pb pc pd i ((peq30a w ht s v0 v1 d0 d1 r ns x f zk zc zq za zb m pk ps pa pb pc pd i).mp hp)))
--#def PN(d) XX
def lp30b (w ht s v0 v1 d0 d1 r:Int) (ns:Nat) (x:Nat→Int) (f:Int) (zk zc zq za zb:Int) (m:Nat) (pk ps pa pb pc pd:Nat→Int):LoopS where
 ι:=Nat
 β:=Unit
 pre d:=d≤m∧M.Gd.ok (M.Gd.mk w ht s v0 v1 d0 d1 r)∧M.Gd.all (M.Gd.mk w ht s v0 v1 d0 d1 r) ns x∧ns≤64∧M.Gd.Sok (M.Gd.mk w ht s v0 v1 d0 d1 r) (M.Sc.mk zk zc zq za zb)∧(∀ i,i<m→M.Pk.Vd ns ((fun i=>M.Pk.mk (pk i) (ps i) (pa i) (pb i) (pc i) (pd i)) i))∧m≤64∧0≤f∧f≤8
 μ d:=m-d
 next d _ _ _:=d+1
 out _:=()
 early _:=false
 SA d:=[(15,.vec 3 1 0 (M.Gd.prN (M.Gd.mk w ht s v0 v1 d0 d1 r) x (M.Sc.mk zk zc zq za zb) m (fun i=>M.Pk.mk (pk i) (ps i) (pa i) (pb i) (pc i) (pd i)) f d)),(17,.fn 73 [] [.ptr 2 0,.ptr 0 0,.ptr 1 0]),(18,SI ((m:Int)-1-d))]
 SH d:=[(0,.cells [SI zk,SI zc,SI zq,SI za,SI zb]),(1,.cells [.sl 6 m (fun j=>[SI (pk j),SI (ps j),SI (pa j),SI (pb j),SI (pc j),SI (pd j)])]),(2,.cells [SI w,SI ht,SI s,SI v0,SI v1,SI d0,SI d1,SI r,.sl 1 ns (fun k=>[SI (x k)]),SI f]),(3,.row 1 (M.Gd.prN (M.Gd.mk w ht s v0 v1 d0 d1 r) x (M.Sc.mk zk zc zq za zb) m (fun i=>M.Pk.mk (pk i) (ps i) (pa i) (pb i) (pc i) (pd i)) f d) (fun k=>[SI (M.Gd.prR (M.Gd.mk w ht s v0 v1 d0 d1 r) x (M.Sc.mk zk zc zq za zb) m (fun i=>M.Pk.mk (pk i) (ps i) (pa i) (pb i) (pc i) (pd i)) f d k)]))]
 n0:=4
 NA _:=[(15,.vec 0 1 0 (M.Gd.prN (M.Gd.mk w ht s v0 v1 d0 d1 r) x (M.Sc.mk zk zc zq za zb) m (fun i=>M.Pk.mk (pk i) (ps i) (pa i) (pb i) (pc i) (pd i)) f m))]
 NH _:=[(0,.row 1 (M.Gd.prN (M.Gd.mk w ht s v0 v1 d0 d1 r) x (M.Sc.mk zk zc zq za zb) m (fun i=>M.Pk.mk (pk i) (ps i) (pa i) (pb i) (pc i) (pd i)) f m) (fun k=>[SI (M.Gd.prR (M.Gd.mk w ht s v0 v1 d0 d1 r) x (M.Sc.mk zk zc zq za zb) m (fun i=>M.Pk.mk (pk i) (ps i) (pa i) (pb i) (pc i) (pd i)) f m k)]))]
 n1:=1
 RA _:=[]
 RH _:=[]
def Rq30b (w ht s v0 v1 d0 d1 r:Int) (ns:Nat) (x:Nat→Int) (f:Int) (zk zc zq za zb:Int) (m:Nat) (pk ps pa pb pc pd:Nat→Int) (d:Nat):Prop:=(fun (z3:Int) (z4:M.Gd) (z5:M.Sc) (z15:Nat) (z2:Nat→M.Pk) (z7 z12 z16:Prop)=>(fun (z0 z8 z13:Nat) (z1:Nat→Int) (z6 z11:Prop)=>(fun (z10:Nat) (z9:Nat→Int) (z14:Prop)=>(decide ((0:Int)≤z3)=true→z14∧z0=z0∧(1:Nat)≤z0∧z0≤(100000:Nat)∧R64 (z3+(1:Int))∧z14∧z0=z0∧(0:Int)≤z3∧z3<(↑z0:Int)∧z3+(1:Int)=z3+(1:Int)∧z0≤(100000:Nat)∧(∀ (k:Nat),k<z10→z9 k=z9 k)∧z12∧z7∧M.Gd.ok z4∧M.Gd.all z4 ns x∧ns≤(64:Nat)∧M.Gd.Sok z4 z5∧(∀ (i:Nat),i<m→M.Pk.Vd ns (M.Pk.mk (pk i) (ps i) (pa i) (pb i) (pc i) (pd i)))∧m≤(64:Nat)∧(0:Int)≤f∧f≤(8:Int)∧z10≤(64:Nat)∧(∀ (k:Nat),k<z10→(0:Int)≤z9 k∧z9 k<(↑m:Int))∧z10=z10∧(M.Gd.stk z4 x z5 z2 f z10 z9=true→R64 (z3-(1:Int))∧z6∧m-z15<m-d∧()=()∧z16∧z10=z8∧z11∧zk=zk∧zc=zc∧zq=zq∧za=za∧zb=zb∧(m=m∧z7)∧w=w∧ht=ht∧s=s∧v0=v0∧v1=v1∧d0=d0∧d1=d1∧r=r∧(ns=ns∧z12)∧f=f∧z8≤z10∧(∀ (k:Nat),k<z8→z9 k=M.Gd.prR z4 x z5 m z2 f z15 k)∧True)∧(M.Gd.stk z4 x z5 z2 f z10 z9=false→R64 (z3-(1:Int))∧z6∧m-z15<m-d∧()=()∧z16∧z0=z8∧z11∧zk=zk∧zc=zc∧zq=zq∧za=za∧zb=zb∧(m=m∧z7)∧w=w∧ht=ht∧s=s∧v0=v0∧v1=v1∧d0=d0∧d1=d1∧r=r∧(ns=ns∧z12)∧f=f∧z8≤z0∧(∀ (k:Nat),k<z8→z1 k=M.Gd.prR z4 x z5 m z2 f z15 k)∧True))∧(decide ((0:Int)≤z3)=false→false=false∧z16∧z0=z13∧z13≤z0∧(∀ (k:Nat),k<z13→z1 k=M.Gd.prR z4 x z5 m z2 f m k)∧True)) (z0-(1:Nat)) (M.delR (Int.toNat z3) z1) (∀ (k:Nat),k<z0→z1 k=z1 k)) (M.Gd.prN z4 x z5 m z2 f d) (M.Gd.prN z4 x z5 m z2 f z15) (M.Gd.prN z4 x z5 m z2 f m) (M.Gd.prR z4 x z5 m z2 f d) (z15≤m∧M.Gd.ok z4∧M.Gd.all z4 ns x∧ns≤(64:Nat)∧M.Gd.Sok z4 z5∧(∀ (i:Nat),i<m→M.Pk.Vd ns (M.Pk.mk (pk i) (ps i) (pa i) (pb i) (pc i) (pd i)))∧m≤(64:Nat)∧(0:Int)≤f∧f≤(8:Int)) (z3-(1:Int)=(↑m:Int)-(1:Int)-(↑z15:Int))) ((↑m:Int)-(1:Int)-(↑d:Int)) (M.Gd.mk w ht s v0 v1 d0 d1 r) (M.Sc.mk zk zc zq za zb) (d+(1:Nat)) (fun i=>M.Pk.mk (pk i) (ps i) (pa i) (pb i) (pc i) (pd i)) (∀ (k:Nat),k<m→pk k=pk k∧ps k=ps k∧pa k=pa k∧pb k=pb k∧pc k=pc k∧pd k=pd k) (∀ (k:Nat),k<ns→x k=x k) ((0:Nat)=(0:Nat))
theorem q30b (w ht s v0 v1 d0 d1 r:Int) (ns:Nat) (x:Nat→Int) (f:Int) (zk zc zq za zb:Int) (m:Nat) (pk ps pa pb pc pd:Nat→Int) (d:Nat):VL true [] [(76,specW e76),(75,specW e75),(73,specW e73)] YS.none Try.f30 0 [0,1,2,3,4,5,7,8,10,11,12,13,14,15,16,17,18,19,30,33,34,35,46,51,62] [] 2 (lp30b w ht s v0 v1 d0 d1 r ns x f zk zc zq za zb m pk ps pa pb pc pd) (d)=Rq30b w ht s v0 v1 d0 d1 r ns x f zk zc zq za zb m pk ps pa pb pc pd d:=by kernel_rfl
theorem peq30b (w ht s v0 v1 d0 d1 r:Int) (ns:Nat) (x:Nat→Int) (f:Int) (zk zc zq za zb:Int) (m:Nat) (pk ps pa pb pc pd:Nat→Int) (d:Nat):(lp30b w ht s v0 v1 d0 d1 r ns x f zk zc zq za zb m pk ps pa pb pc pd).pre (d)=(d≤m ∧
 M.Gd.ok (M.Gd.mk w ht s v0 v1 d0 d1 r) ∧
  M.Gd.all (M.Gd.mk w ht s v0 v1 d0 d1 r) ns x ∧
   ns≤(64:Nat) ∧
    M.Gd.Sok (M.Gd.mk w ht s v0 v1 d0 d1 r) (M.Sc.mk zk zc zq za zb) ∧
     (∀ (i:Nat),i<m→M.Pk.Vd ns (M.Pk.mk (pk i) (ps i) (pa i) (pb i) (pc i) (pd i)))∧m≤(64:Nat)∧(0:Int)≤f∧f≤(8:Int)):=by kernel_rfl
theorem bq30b (w ht s v0 v1 d0 d1 r:Int) (ns:Nat) (x:Nat→Int) (f:Int) (zk zc zq za zb:Int) (m:Nat) (pk ps pa pb pc pd:Nat→Int) (d:Nat) (hp:d≤m ∧
 M.Gd.ok (M.Gd.mk w ht s v0 v1 d0 d1 r) ∧
  M.Gd.all (M.Gd.mk w ht s v0 v1 d0 d1 r) ns x ∧
   ns≤(64:Nat) ∧
    M.Gd.Sok (M.Gd.mk w ht s v0 v1 d0 d1 r) (M.Sc.mk zk zc zq za zb) ∧
     (∀ (i:Nat),i<m→M.Pk.Vd ns (M.Pk.mk (pk i) (ps i) (pa i) (pb i) (pc i) (pd i)))∧m≤(64:Nat)∧(0:Int)≤f∧f≤(8:Int)):Rq30b w ht s v0 v1 d0 d1 r ns x f zk zc zq za zb m pk ps pa pb pc pd d:=by
 unfold Rq30b
 dsimp -iota -proj -eta -zeta only
 obtain ⟨h1,hk,ha,hn,hz,hP,hm,f1,f2⟩:=id hp
 by_cases hl:d<m
 ·have hl':(0:Int)≤(m:Int)-1-d:=by omega
  have t1:((m:Int)-1-d).toNat=m-1-d:=by omega
  obtain ⟨u1,u2⟩:=M.Gd.prN_succ (g:=(M.Gd.mk w ht s v0 v1 d0 d1 r)) (x:=x) (s:=(M.Sc.mk zk zc zq za zb)) (P:=(fun i=>M.Pk.mk (pk i) (ps i) (pa i) (pb i) (pc i) (pd i))) (f:=f) hl
  obtain ⟨q1,q2,q3⟩:=M.Gd.del_rest (g:=(M.Gd.mk w ht s v0 v1 d0 d1 r)) (x:=x) (s:=(M.Sc.mk zk zc zq za zb)) (P:=(fun i=>M.Pk.mk (pk i) (ps i) (pa i) (pb i) (pc i) (pd i))) (f:=f) hl
  have q4:=M.Gd.prN_le (g:=(M.Gd.mk w ht s v0 v1 d0 d1 r)) (x:=x) (s:=(M.Sc.mk zk zc zq za zb)) (P:=(fun i=>M.Pk.mk (pk i) (ps i) (pa i) (pb i) (pc i) (pd i))) (f:=f) (show d≤m by omega)
  have q5:=fun k hk2=>M.Gd.del_in (g:=(M.Gd.mk w ht s v0 v1 d0 d1 r)) (x:=x) (s:=(M.Sc.mk zk zc zq za zb)) (P:=(fun i=>M.Pk.mk (pk i) (ps i) (pa i) (pb i) (pc i) (pd i))) (f:=f) hl (k:=k) hk2
  have r1:R64 ((m:Int)-1-d+1):=by unfold R64; omega
  have r2:R64 ((m:Int)-1-d-1):=by unfold R64; omega
  simp only [u1,u2,t1,r1,r2]
  clear u1 u2 q1 q2
  generalize M.Gd.prN (M.Gd.mk w ht s v0 v1 d0 d1 r) x (M.Sc.mk zk zc zq za zb) m (fun i=>M.Pk.mk (pk i) (ps i) (pa i) (pb i) (pc i) (pd i)) f d=N0 at *
  generalize M.Gd.prR (M.Gd.mk w ht s v0 v1 d0 d1 r) x (M.Sc.mk zk zc zq za zb) m (fun i=>M.Pk.mk (pk i) (ps i) (pa i) (pb i) (pc i) (pd i)) f d=R0 at *
  have q6:(m:Int)-1-d<(N0:Int):=by omega
  have hl2:(d:Int)≤(m:Int)-1:=by omega
  by_cases c:M.Gd.stk (M.Gd.mk w ht s v0 v1 d0 d1 r) x (M.Sc.mk zk zc zq za zb) (fun i=>M.Pk.mk (pk i) (ps i) (pa i) (pb i) (pc i) (pd i)) f (N0-1) (M.delR (m-1-d) R0)=true
  ·simp [hl',hl2,c,hk,ha,hn,hz,hm,f1,f2,q6]
   repeat' apply And.intro
   all_goals first | omega | exact hP | exact q5
  ·simp [hl',hl2,c,hk,ha,hn,hz,hm,f1,f2,q6]
   repeat' apply And.intro
   all_goals first | omega | exact hP | exact q5
 ·have e:d=m:=by omega
  subst e
  have hl':¬ (0:Int)≤(d:Int)-1-d:=by omega
  simp [hl']
  omega
theorem t30b (w ht s v0 v1 d0 d1 r:Int) (ns:Nat) (x:Nat→Int) (f:Int) (zk zc zq za zb:Int) (m:Nat) (pk ps pa pb pc pd:Nat→Int) {F:Fence} (hF:FOK F) (Y:YEnv PP YS.none):∀ Q A H nx,loopT false Try.f30.ntmps 0 (lp30b w ht s v0 v1 d0 d1 r ns x f zk zc zq za zb m pk ps pa pb pc pd) (fun _ _ _=>(0:Nat)) Q A H nx→WPS Y F Try.f30.ntmps 0 (.block 2 (blkAt 2 Try.f30)) Q A H nx :=
 loopW (E:=[]) (.nil) (O:=[(76,specW e76),(75,specW e75),(73,specW e73)]) (.cons (specW_ok s76) (.cons (specW_ok s75) (.cons (specW_ok s73) (.nil)))) (ck:=true) (L:=[0,1,2,3,4,5,7,8,10,11,12,13,14,15,16,17,18,19,30,33,34,35,46,51,62]) (f:=Try.f30) (m:=0) (id:=2) (l:=(lp30b w ht s v0 v1 d0 d1 r ns x f zk zc zq za zb m pk ps pa pb pc pd)) (LI:=fun i=>[]) Y hF (by kernel_rfl) (fun _=>.nil) (by
  rintro d hp
  exact Hold.of (q30b w ht s v0 v1 d0 d1 r ns x f zk zc zq za zb m pk ps pa pb pc pd d) (bq30b w ht s v0 v1 d0 d1 r ns x f zk zc zq za zb m pk ps pa pb pc pd d ((peq30b w ht s v0 v1 d0 d1 r ns x f zk zc zq za zb m pk ps pa pb pc pd d).mp hp)))
def e30:List SV→Option (List Prop × SV)
 | [.agg [.int .i64 w,.int .i64 ht,.int .i64 s,.int .i64 v0,.int .i64 v1,.int .i64 d0,.int .i64 d1,.int .i64 r],.sl 1 ns g_1,.agg [.int .i64 zk,.int .i64 zc,.int .i64 zq,.int .i64 za,.int .i64 zb],.sl 6 m g_2,.int .i64 f]=>some ([Row 1 ns g_1,Row 6 m g_2,ns≤100000,m≤100000],.tup [.sl 1 (if (M.Gd.ck1 (M.Gd.mk w ht s v0 v1 d0 d1 r) ns (cI g_1 0) (M.Sc.mk zk zc zq za zb) m (fun i=>M.Pk.mk ((cI g_2 0) i) ((cI g_2 1) i) ((cI g_2 2) i) ((cI g_2 3) i) ((cI g_2 4) i) ((cI g_2 5) i)) f)=0∧(M.Gd.stA (M.Gd.mk w ht s v0 v1 d0 d1 r) (cI g_1 0) (M.Sc.mk zk zc zq za zb) m (fun i=>M.Pk.mk ((cI g_2 0) i) ((cI g_2 1) i) ((cI g_2 2) i) ((cI g_2 3) i) ((cI g_2 4) i) ((cI g_2 5) i)) f)=true then M.Gd.prN (M.Gd.mk w ht s v0 v1 d0 d1 r) (cI g_1 0) (M.Sc.mk zk zc zq za zb) m (fun i=>M.Pk.mk ((cI g_2 0) i) ((cI g_2 1) i) ((cI g_2 2) i) ((cI g_2 3) i) ((cI g_2 4) i) ((cI g_2 5) i)) f m else 0) (fun k=>[SI (M.Gd.prR (M.Gd.mk w ht s v0 v1 d0 d1 r) (cI g_1 0) (M.Sc.mk zk zc zq za zb) m (fun i=>M.Pk.mk ((cI g_2 0) i) ((cI g_2 1) i) ((cI g_2 2) i) ((cI g_2 3) i) ((cI g_2 4) i) ((cI g_2 5) i)) f m k)]),.bool (decide ((M.Gd.ck1 (M.Gd.mk w ht s v0 v1 d0 d1 r) ns (cI g_1 0) (M.Sc.mk zk zc zq za zb) m (fun i=>M.Pk.mk ((cI g_2 0) i) ((cI g_2 1) i) ((cI g_2 2) i) ((cI g_2 3) i) ((cI g_2 4) i) ((cI g_2 5) i)) f)=0∧(M.Gd.stA (M.Gd.mk w ht s v0 v1 d0 d1 r) (cI g_1 0) (M.Sc.mk zk zc zq za zb) m (fun i=>M.Pk.mk ((cI g_2 0) i) ((cI g_2 1) i) ((cI g_2 2) i) ((cI g_2 3) i) ((cI g_2 4) i) ((cI g_2 5) i)) f)=true)),SI (M.Gd.ck1 (M.Gd.mk w ht s v0 v1 d0 d1 r) ns (cI g_1 0) (M.Sc.mk zk zc zq za zb) m (fun i=>M.Pk.mk ((cI g_2 0) i) ((cI g_2 1) i) ((cI g_2 2) i) ((cI g_2 3) i) ((cI g_2 4) i) ((cI g_2 5) i)) f)])
 | _=>none
def Rr30 (w ht s v0 v1 d0 d1 r:Int) (ns:Nat) (x:Nat→Int) (f:Int) (zk zc zq za zb:Int) (m:Nat) (pk ps pa pb pc pd:Nat→Int):Prop:=(fun (z13 z14:Int) (z1:M.Gd) (z2:M.Sc) (z6:Nat) (z0:Nat→M.Pk) (z3 z7 z9 z15:Prop)=>(fun (z16:Bool) (z8 z11:Int) (z10 z12:Nat)=>(fun (z5:Bool) (z4:Nat)=>z6+(1:Nat)≤(1:Nat)∧z7∧(∀ (k:Nat),k<(1:Nat)→zk=zk∧zc=zc∧zq=zq∧za=za∧zb=zb)∧z3∧ns≤(100000:Nat)∧(1:Nat)≤(100000:Nat)∧m≤(100000:Nat)∧((!decide (z8=z14))=true→z4=z6∧false=z5∧z8=z11)∧((!decide (z8=z14))=false→(z6≤m∧z15)∧(z6=z6∧z13=z13∧z14=(↑z6:Int)∧zk=zk∧zc=zc∧zq=zq∧za=za∧zb=zb∧(m=m∧z3)∧w=w∧ht=ht∧s=s∧v0=v0∧v1=v1∧d0=d0∧d1=d1∧r=r∧(ns=ns∧z7)∧f=f∧z6=z6∧True)∧(false=false→(∀ (k:Nat),k<m→(↑k:Int)=(↑k:Int))∧z7∧z3∧M.Gd.ok z1∧M.Gd.all z1 ns x∧ns≤(64:Nat)∧M.Gd.Sok z1 z2∧z9∧z15∧z14≤f∧f≤(8:Int)∧z15∧(∀ (k:Nat),k<m→z14≤(↑k:Int)∧(↑k:Int)<z13)∧m=m∧(z16=true→z4=z6∧false=z5∧z14=z11)∧(z16=false→R64 (z13-(1:Int))∧(z6≤m∧M.Gd.ok z1∧M.Gd.all z1 ns x∧ns≤(64:Nat)∧M.Gd.Sok z1 z2∧z9∧z15∧z14≤f∧f≤(8:Int))∧(z6=z6∧m=z12∧z13-(1:Int)=z13-(1:Int)-(↑z6:Int)∧zk=zk∧zc=zc∧zq=zq∧za=za∧zb=zb∧(m=m∧z3)∧w=w∧ht=ht∧s=s∧v0=v0∧v1=v1∧d0=d0∧d1=d1∧r=r∧(ns=ns∧z7)∧f=f∧z12≤m∧(∀ (k:Nat),k<z12→(↑k:Int)=M.Gd.prR z1 x z2 m z0 f z6 k)∧True)∧(false=false→z6+z10≤z10∧((z10=z4)∧∀ (k:Nat),k<z10→M.Gd.prR z1 x z2 m z0 f m (z6+k)=M.Gd.prR z1 x z2 m z0 f m k)∧true=z5∧z14=z11)∧(false=true→False)))∧(false=true→False))) (decide (z11=z14∧M.Gd.stA z1 x z2 m z0 f=true)) (if z11=z14∧M.Gd.stA z1 x z2 m z0 f=true then z10 else z6)) (!M.Gd.stk z1 x z2 z0 f m Nat.cast) (M.Gd.ckE z1 ns x (1:Nat) (fun i=>z2) m z0 f) (M.Gd.ck1 z1 ns x z2 m z0 f) (M.Gd.prN z1 x z2 m z0 f m) (M.Gd.prN z1 x z2 m z0 f z6)) (↑m:Int) (0:Int) (M.Gd.mk w ht s v0 v1 d0 d1 r) (M.Sc.mk zk zc zq za zb) (0:Nat) (fun i=>M.Pk.mk (pk i) (ps i) (pa i) (pb i) (pc i) (pd i)) (∀ (k:Nat),k<m→pk k=pk k∧ps k=ps k∧pa k=pa k∧pb k=pb k∧pc k=pc k∧pd k=pd k) (∀ (k:Nat),k<ns→x k=x k) (∀ (i:Nat),i<m→M.Pk.Vd ns (M.Pk.mk (pk i) (ps i) (pa i) (pb i) (pc i) (pd i))) (m≤(64:Nat))
theorem r30 (w ht s v0 v1 d0 d1 r:Int) (ns:Nat) (x:Nat→Int) (f:Int) (zk zc zq za zb:Int) (m:Nat) (pk ps pa pb pc pd:Nat→Int):V true [] [(59,pureE e59),(73,specW e73)] Try.f30 [0,1,2,3,4,5,7,8,10,11,12,13,14,15,16,17,18,19,30,33,34,35,46,51,62] [(0,loopT false Try.f30.ntmps 0 (lp30a w ht s v0 v1 d0 d1 r ns x f zk zc zq za zb m pk ps pa pb pc pd) (fun _ _ _=>(0:Nat))),(2,loopT false Try.f30.ntmps 0 (lp30b w ht s v0 v1 d0 d1 r ns x f zk zc zq za zb m pk ps pa pb pc pd) (fun _ _ _=>(0:Nat)))] [.agg [SI w,SI ht,SI s,SI v0,SI v1,SI d0,SI d1,SI r],.sl 1 ns (fun k=>[SI (x k)]),.agg [SI zk,SI zc,SI zq,SI za,SI zb],.sl 6 m (fun k=>[SI (pk k),SI (ps k),SI (pa k),SI (pb k),SI (pc k),SI (pd k)]),SI f] (.tup [.sl 1 (if (M.Gd.ck1 (M.Gd.mk w ht s v0 v1 d0 d1 r) ns x (M.Sc.mk zk zc zq za zb) m (fun i=>M.Pk.mk (pk i) (ps i) (pa i) (pb i) (pc i) (pd i)) f)=0∧(M.Gd.stA (M.Gd.mk w ht s v0 v1 d0 d1 r) x (M.Sc.mk zk zc zq za zb) m (fun i=>M.Pk.mk (pk i) (ps i) (pa i) (pb i) (pc i) (pd i)) f)=true then M.Gd.prN (M.Gd.mk w ht s v0 v1 d0 d1 r) x (M.Sc.mk zk zc zq za zb) m (fun i=>M.Pk.mk (pk i) (ps i) (pa i) (pb i) (pc i) (pd i)) f m else 0) (fun k=>[SI (M.Gd.prR (M.Gd.mk w ht s v0 v1 d0 d1 r) x (M.Sc.mk zk zc zq za zb) m (fun i=>M.Pk.mk (pk i) (ps i) (pa i) (pb i) (pc i) (pd i)) f m k)]),.bool (decide ((M.Gd.ck1 (M.Gd.mk w ht s v0 v1 d0 d1 r) ns x (M.Sc.mk zk zc zq za zb) m (fun i=>M.Pk.mk (pk i) (ps i) (pa i) (pb i) (pc i) (pd i)) f)=0∧(M.Gd.stA (M.Gd.mk w ht s v0 v1 d0 d1 r) x (M.Sc.mk zk zc zq za zb) m (fun i=>M.Pk.mk (pk i) (ps i) (pa i) (pb i) (pc i) (pd i)) f)=true)),SI (M.Gd.ck1 (M.Gd.mk w ht s v0 v1 d0 d1 r) ns x (M.Sc.mk zk zc zq za zb) m (fun i=>M.Pk.mk (pk i) (ps i) (pa i) (pb i) (pc i) (pd i)) f)])=Rr30 w ht s v0 v1 d0 d1 r ns x f zk zc zq za zb m pk ps pa pb pc pd:=by kernel_rfl
theorem br30 (w ht s v0 v1 d0 d1 r:Int) (ns:Nat) (x:Nat→Int) (f:Int) (zk zc zq za zb:Int) (m:Nat) (pk ps pa pb pc pd:Nat→Int) (hp:(ns≤100000)∧(m≤100000)∧AllP []):Rr30 w ht s v0 v1 d0 d1 r ns x f zk zc zq za zb m pk ps pa pb pc pd:=by
 unfold Rr30
 dsimp -iota -proj -eta -zeta only
 obtain ⟨h1,h2,-⟩:=id hp
 have r1:R64 (m:Int):=by unfold R64; omega
 have r2:R64 ((m:Int)-1):=by unfold R64; omega
 obtain ⟨p1,p2⟩:=@M.Gd.pr_zero (M.Gd.mk w ht s v0 v1 d0 d1 r) x (M.Sc.mk zk zc zq za zb) f m (fun i=>M.Pk.mk (pk i) (ps i) (pa i) (pb i) (pc i) (pd i))
 have e1:M.Gd.ckE (M.Gd.mk w ht s v0 v1 d0 d1 r) ns x 1 (fun _=>(M.Sc.mk zk zc zq za zb)) m (fun i=>M.Pk.mk (pk i) (ps i) (pa i) (pb i) (pc i) (pd i)) f=M.Gd.ck1 (M.Gd.mk w ht s v0 v1 d0 d1 r) ns x (M.Sc.mk zk zc zq za zb) m (fun i=>M.Pk.mk (pk i) (ps i) (pa i) (pb i) (pc i) (pd i)) f:=rfl
 have e2:=@M.Gd.stA_eq (M.Gd.mk w ht s v0 v1 d0 d1 r) x (M.Sc.mk zk zc zq za zb) f m (fun i=>M.Pk.mk (pk i) (ps i) (pa i) (pb i) (pc i) (pd i))
 simp only [e1,r1,r2]
 by_cases c:(M.Gd.ck1 (M.Gd.mk w ht s v0 v1 d0 d1 r) ns x (M.Sc.mk zk zc zq za zb) m (fun i=>M.Pk.mk (pk i) (ps i) (pa i) (pb i) (pc i) (pd i)) f)=0
 ·obtain ⟨hk,hn,ha,hz,hm,hP,f1,f2⟩:=M.Gd.ck1_ok c
  simp only [p1]
  by_cases c2:(M.Gd.stA (M.Gd.mk w ht s v0 v1 d0 d1 r) x (M.Sc.mk zk zc zq za zb) m (fun i=>M.Pk.mk (pk i) (ps i) (pa i) (pb i) (pc i) (pd i)) f)=true
  ·rw [c2] at e2
   simp [c,c2,e2,h1,h2,hk,ha,hn,hz,hm,f1,f2,p2]
   exact ⟨hP,fun k hk2=>(p2 k hk2).symm⟩
  ·rw [Bool.eq_false_iff.2 c2] at e2
   simp [c,c2,e2,h1,h2,hk,ha,hn,hz,hm,f1,f2,p2]
   exact hP
 ·simp [c,h1,h2]
theorem s30:PureOK PP 30 e30:=by
 intro xs ps res h hp
 unfold e30 at h
 split at h
 ·rename_i w ht s v0 v1 d0 d1 r ns g_1 zk zc zq za zb m g_2 f
  cases h
  simp only [AllP.cons] at hp
  obtain ⟨Hg_1,Hg_2,hp⟩:=hp
  exact Spec.args (enterH (Hold.of (r30 w ht s v0 v1 d0 d1 r ns (cI g_1 0) f zk zc zq za zb m (cI g_2 0) (cI g_2 1) (cI g_2 2) (cI g_2 3) (cI g_2 4) (cI g_2 5)) (br30 w ht s v0 v1 d0 d1 r ns (cI g_1 0) f zk zc zq za zb m (cI g_2 0) (cI g_2 1) (cI g_2 2) (cI g_2 3) (cI g_2 4) (cI g_2 5) hp)) (.nil) (.cons (pureE_ok s59) (.cons (specW_ok s73) (.nil))) (k:=30) (by kernel_rfl) (by kernel_rfl) (fun Y=>.cons (by kernel_rfl) (t30a w ht s v0 v1 d0 d1 r ns (cI g_1 0) f zk zc zq za zb m (cI g_2 0) (cI g_2 1) (cI g_2 2) (cI g_2 3) (cI g_2 4) (cI g_2 5) FOK.wide Y) (.cons (by kernel_rfl) (t30b w ht s v0 v1 d0 d1 r ns (cI g_1 0) f zk zc zq za zb m (cI g_2 0) (cI g_2 1) (cI g_2 2) (cI g_2 3) (cI g_2 4) (cI g_2 5) FOK.wide Y) (.nil)))) (.cons (.refl _) (.cons (.row Hg_1 fun _=>rfl) (.cons (.refl _) (.cons (.row Hg_2 fun _=>rfl) (.cons (.refl _) .nil)))))
 ·cases h
end Go.Proofs.Ytoncoofmijjgeaa.Sep
namespace Go.Proofs.Ytoncoofmijjgeaa.M
open Go
set_option linter.unusedVariables false
set_option linter.unusedSimpArgs false
def alF (c:Nat→Bool):Nat→Nat→Bool
 | 0,_=>true
 | f+1,i=>c i && alF c f (i+1)
def eqS (s t:Sc):Bool:=decide (s.k=t.k∧s.c=t.c∧s.q=t.q∧s.a=t.a∧s.b=t.b)
def same (n m:Nat) (s t:Nat→Sc):Bool:=decide (n=m) && alF (fun i=>eqS (s i) (t i)) n 0
def same1 (n m:Nat) (s t:Nat→Int):Bool:=decide (n=m) && alF (fun i=>decide (s i=t i)) n 0
def exS:Nat→Int
 | 0=>0
 | _=>4
def exL (k:Nat):Sc:=⟨1,k,5,0,10000⟩
def exP:Nat→Pk
 | 0=>⟨1,0,8000,8000,0,0⟩
 | _=>⟨1,1,5000,5000,0,0⟩
end Go.Proofs.Ytoncoofmijjgeaa.M
namespace Go.Proofs.Ytoncoofmijjgeaa.Sep
open Go
set_option linter.unusedVariables false
set_option linter.unusedSimpArgs false
def lp21 (n:Nat) (sk sc sq sa sb:Nat→Int) (tk tc tq ta tb:Nat→Int):LoopS where
 ι:=Nat
 β:=Bool
 pre i:=i≤n∧n≤100000
 μ i:=n-i
 next i _ _ _:=i+1
 out i:=M.alF (fun i=>M.eqS ((fun i=>M.Sc.mk (sk i) (sc i) (sq i) (sa i) (sb i)) i) ((fun i=>M.Sc.mk (tk i) (tc i) (tq i) (ta i) (tb i)) i)) (n-i) i
 early q:=!q
 SA i:=[(0,.sl 5 n (fun j=>[SI (sk j),SI (sc j),SI (sq j),SI (sa j),SI (sb j)])),(1,.sl 5 n (fun j=>[SI (tk j),SI (tc j),SI (tq j),SI (ta j),SI (tb j)])),(5,SI i)]
 SH _:=[]
 n0:=0
 NA _:=[]
 NH _:=[]
 n1:=0
 RA _:=[(4,.bool false)]
 RH _:=[]
def Rq21 (n:Nat) (sk sc sq sa sb:Nat→Int) (tk tc tq ta tb:Nat→Int) (i:Nat):Prop:=(fun (z3 z5:Int) (z4:Nat) (z1:Nat→Nat→Bool)=>(fun (z0:Nat)=>(fun (z2:Bool)=>(decide (z3<z5)=true→(0:Int)≤z3∧z3<z5∧z0<n∧(0:Int)≤z3∧z3<z5∧z0<n∧(z2=true→(!z1 (n-i) i)=true∧false=false∧True)∧(z2=false→R64 (z3+(1:Int))∧(z4≤n∧n≤(100000:Nat))∧n-z4<n-i∧z1 (n-z4) z4=z1 (n-i) i∧(n=n∧∀ (k:Nat),k<n→sk k=sk k∧sc k=sc k∧sq k=sq k∧sa k=sa k∧sb k=sb k)∧(n=n∧∀ (k:Nat),k<n→tk k=tk k∧tc k=tc k∧tq k=tq k∧ta k=ta k∧tb k=tb k)∧z3+(1:Int)=(↑z4:Int)∧True))∧(decide (z3<z5)=false→(!z1 (n-i) i)=false∧True)) (!(decide (sk z0=tk z0) && (decide (sc z0=tc z0) && (decide (sq z0=tq z0) && (decide (sa z0=ta z0) && (decide (sb z0=tb z0) && true))))))) (Int.toNat z3)) (↑i:Int) (↑n:Int) (i+(1:Nat)) (M.alF (fun i=>M.eqS (M.Sc.mk (sk i) (sc i) (sq i) (sa i) (sb i)) (M.Sc.mk (tk i) (tc i) (tq i) (ta i) (tb i))))
theorem q21 (n:Nat) (sk sc sq sa sb:Nat→Int) (tk tc tq ta tb:Nat→Int) (i:Nat):VL true eqs [] YS.none Try.f21 0 [0,1,4,5,10,14,25] [] 0 (lp21 n sk sc sq sa sb tk tc tq ta tb) (i)=Rq21 n sk sc sq sa sb tk tc tq ta tb i:=by kernel_rfl
theorem peq21 (n:Nat) (sk sc sq sa sb:Nat→Int) (tk tc tq ta tb:Nat→Int) (i:Nat):(lp21 n sk sc sq sa sb tk tc tq ta tb).pre (i)=(i≤n∧n≤(100000:Nat)):=by kernel_rfl
theorem bq21 (n:Nat) (sk sc sq sa sb:Nat→Int) (tk tc tq ta tb:Nat→Int) (i:Nat) (hp:i≤n∧n≤(100000:Nat)):Rq21 n sk sc sq sa sb tk tc tq ta tb i:=by
 unfold Rq21
 dsimp -iota -proj -eta -zeta only
 obtain ⟨h1,h2⟩:=id hp
 have r1:R64 ((i:Int)+1):=by unfold R64; omega
 simp only [Int.toNat_natCast,r1]
 by_cases hl:i<n
 ·obtain ⟨f,hf⟩ : ∃ f,n-i=f+1:=⟨n-i-1,by omega⟩
  have hf':n-(i+1)=f:=by omega
  by_cases hc:sk i=tk i∧sc i=tc i∧sq i=tq i∧sa i=ta i∧sb i=tb i
  ·simp [hl,hc,hf,hf',M.alF,M.eqS]
   try omega
  ·simp [hl,hc,hf,hf',M.alF,M.eqS]
   try omega
 ·have e:n-i=0:=by omega
  simp [hl,e,M.alF]
  try omega
theorem t21 (n:Nat) (sk sc sq sa sb:Nat→Int) (tk tc tq ta tb:Nat→Int) {F:Fence} (hF:FOK F) (Y:YEnv PP YS.none):∀ Q A H nx,loopT false Try.f21.ntmps 0 (lp21 n sk sc sq sa sb tk tc tq ta tb) (fun _ _ _=>(0:Nat)) Q A H nx→WPS Y F Try.f21.ntmps 0 (.block 0 (blkAt 0 Try.f21)) Q A H nx :=
 loopW (E:=eqs) (eqsok) (O:=[]) (.nil) (ck:=true) (L:=[0,1,4,5,10,14,25]) (f:=Try.f21) (m:=0) (id:=0) (l:=(lp21 n sk sc sq sa sb tk tc tq ta tb)) (LI:=fun i=>[]) Y hF (by kernel_rfl) (fun _=>.nil) (by
  rintro i hp
  exact Hold.of (q21 n sk sc sq sa sb tk tc tq ta tb i) (bq21 n sk sc sq sa sb tk tc tq ta tb i ((peq21 n sk sc sq sa sb tk tc tq ta tb i).mp hp)))
def e21:List SV→Option (List Prop × SV)
 | [.sl 5 n g_1,.sl 5 m g_2]=>some ([Row 5 n g_1,Row 5 m g_2,n≤100000,m≤100000],.bool (M.same n m (fun i=>M.Sc.mk ((cI g_1 0) i) ((cI g_1 1) i) ((cI g_1 2) i) ((cI g_1 3) i) ((cI g_1 4) i)) (fun i=>M.Sc.mk ((cI g_2 0) i) ((cI g_2 1) i) ((cI g_2 2) i) ((cI g_2 3) i) ((cI g_2 4) i))))
 | _=>none
def Rr21 (n:Nat) (sk sc sq sa sb:Nat→Int) (m:Nat) (tk tc tq ta tb:Nat→Int):Prop:=(fun (z0 z1 z2:Bool)=>(z2=true→false=z0)∧(z2=false→((0:Nat)≤n∧n≤(100000:Nat))∧((n=n∧∀ (k:Nat),k<n→sk k=sk k∧sc k=sc k∧sq k=sq k∧sa k=sa k∧sb k=sb k)∧(m=n∧∀ (k:Nat),k<m→tk k=tk k∧tc k=tc k∧tq k=tq k∧ta k=ta k∧tb k=tb k)∧(0:Int)=(↑(0:Nat):Int)∧True)∧(z1=false→true=z0)∧(z1=true→false=z0))) (M.same n m (fun i=>M.Sc.mk (sk i) (sc i) (sq i) (sa i) (sb i)) fun i=>M.Sc.mk (tk i) (tc i) (tq i) (ta i) (tb i)) (!M.alF (fun i=>M.eqS (M.Sc.mk (sk i) (sc i) (sq i) (sa i) (sb i)) (M.Sc.mk (tk i) (tc i) (tq i) (ta i) (tb i))) (n-(0:Nat)) (0:Nat)) (!decide ((↑n:Int)=(↑m:Int)))
theorem r21 (n:Nat) (sk sc sq sa sb:Nat→Int) (m:Nat) (tk tc tq ta tb:Nat→Int):V true [] [] Try.f21 [0,1,4,5,10,14,25] [(0,loopT false Try.f21.ntmps 0 (lp21 n sk sc sq sa sb tk tc tq ta tb) (fun _ _ _=>(0:Nat)))] [.sl 5 n (fun k=>[SI (sk k),SI (sc k),SI (sq k),SI (sa k),SI (sb k)]),.sl 5 m (fun k=>[SI (tk k),SI (tc k),SI (tq k),SI (ta k),SI (tb k)])] (.bool (M.same n m (fun i=>M.Sc.mk (sk i) (sc i) (sq i) (sa i) (sb i)) (fun i=>M.Sc.mk (tk i) (tc i) (tq i) (ta i) (tb i))))=Rr21 n sk sc sq sa sb m tk tc tq ta tb:=by kernel_rfl
theorem br21 (n:Nat) (sk sc sq sa sb:Nat→Int) (m:Nat) (tk tc tq ta tb:Nat→Int) (hp:(n≤100000)∧(m≤100000)∧AllP []):Rr21 n sk sc sq sa sb m tk tc tq ta tb:=by
 unfold Rr21
 dsimp -iota -proj -eta -zeta only
 obtain ⟨h1,h2,-⟩:=id hp
 unfold M.same
 by_cases c:n=m
 ·subst c
  simp [h1]
 ·have c':¬ (n:Int)=m:=by omega
  simp [c,c',h1]
theorem s21:PureOK PP 21 e21:=by
 intro xs ps res h hp
 unfold e21 at h
 split at h
 ·rename_i n g_1 m g_2
  cases h
  simp only [AllP.cons] at hp
  obtain ⟨Hg_1,Hg_2,hp⟩:=hp
  exact Spec.args (enterH (Hold.of (r21 n (cI g_1 0) (cI g_1 1) (cI g_1 2) (cI g_1 3) (cI g_1 4) m (cI g_2 0) (cI g_2 1) (cI g_2 2) (cI g_2 3) (cI g_2 4)) (br21 n (cI g_1 0) (cI g_1 1) (cI g_1 2) (cI g_1 3) (cI g_1 4) m (cI g_2 0) (cI g_2 1) (cI g_2 2) (cI g_2 3) (cI g_2 4) hp)) (.nil) (.nil) (k:=21) (by kernel_rfl) (by kernel_rfl) (fun Y=>.cons (by kernel_rfl) (t21 n (cI g_1 0) (cI g_1 1) (cI g_1 2) (cI g_1 3) (cI g_1 4) (cI g_2 0) (cI g_2 1) (cI g_2 2) (cI g_2 3) (cI g_2 4) FOK.wide Y) (.nil))) (.cons (.row Hg_1 fun _=>rfl) (.cons (.row Hg_2 fun _=>rfl) .nil))
 ·cases h
def lp32 (n:Nat) (x y:Nat→Int):LoopS where
 ι:=Nat
 β:=Bool
 pre i:=i≤n∧n≤100000
 μ i:=n-i
 next i _ _ _:=i+1
 out i:=M.alF (fun i=>decide (x i=y i)) (n-i) i
 early q:=!q
 SA i:=[(0,.sl 1 n (fun j=>[SI (x j)])),(1,.sl 1 n (fun j=>[SI (y j)])),(5,SI i)]
 SH _:=[]
 n0:=0
 NA _:=[]
 NH _:=[]
 n1:=0
 RA _:=[(4,.bool false)]
 RH _:=[]
def Rq32 (n:Nat) (x y:Nat→Int) (i:Nat):Prop:=(fun (z0 z4:Int) (z3:Nat) (z1:Nat→Nat→Bool)=>(fun (z2:Nat)=>(decide (z0<z4)=true→(0:Int)≤z0∧z0<z4∧z2<n∧(0:Int)≤z0∧z0<z4∧z2<n∧((!decide (x z2=y z2))=true→(!z1 (n-i) i)=true∧false=false∧True)∧((!decide (x z2=y z2))=false→R64 (z0+(1:Int))∧(z3≤n∧n≤(100000:Nat))∧n-z3<n-i∧z1 (n-z3) z3=z1 (n-i) i∧(n=n∧∀ (k:Nat),k<n→x k=x k)∧(n=n∧∀ (k:Nat),k<n→y k=y k)∧z0+(1:Int)=(↑z3:Int)∧True))∧(decide (z0<z4)=false→(!z1 (n-i) i)=false∧True)) (Int.toNat z0)) (↑i:Int) (↑n:Int) (i+(1:Nat)) (M.alF (fun i=>decide (x i=y i)))
theorem q32 (n:Nat) (x y:Nat→Int) (i:Nat):VL true eqs [] YS.none Try.f32 0 [0,1,4,5,10,14,25] [] 0 (lp32 n x y) (i)=Rq32 n x y i:=by kernel_rfl
theorem peq32 (n:Nat) (x y:Nat→Int) (i:Nat):(lp32 n x y).pre (i)=(i≤n∧n≤(100000:Nat)):=by kernel_rfl
theorem bq32 (n:Nat) (x y:Nat→Int) (i:Nat) (hp:i≤n∧n≤(100000:Nat)):Rq32 n x y i:=by
 unfold Rq32
 dsimp -iota -proj -eta -zeta only
 obtain ⟨h1,h2⟩:=id hp
 have r1:R64 ((i:Int)+1):=by unfold R64; omega
 simp only [Int.toNat_natCast,r1]
 by_cases hl:i<n
 ·obtain ⟨f,hf⟩ : ∃ f,n-i=f+1:=⟨n-i-1,by omega⟩
  have hf':n-(i+1)=f:=by omega
  by_cases hc:x i=y i
  ·simp [hl,hc,hf,hf',M.alF,M.eqS]
   try omega
  ·simp [hl,hc,hf,hf',M.alF,M.eqS]
   try omega
 ·have e:n-i=0:=by omega
  simp [hl,e,M.alF]
  try omega
theorem t32 (n:Nat) (x y:Nat→Int) {F:Fence} (hF:FOK F) (Y:YEnv PP YS.none):∀ Q A H nx,loopT false Try.f32.ntmps 0 (lp32 n x y) (fun _ _ _=>(0:Nat)) Q A H nx→WPS Y F Try.f32.ntmps 0 (.block 0 (blkAt 0 Try.f32)) Q A H nx :=
 loopW (E:=eqs) (eqsok) (O:=[]) (.nil) (ck:=true) (L:=[0,1,4,5,10,14,25]) (f:=Try.f32) (m:=0) (id:=0) (l:=(lp32 n x y)) (LI:=fun i=>[]) Y hF (by kernel_rfl) (fun _=>.nil) (by
  rintro i hp
  exact Hold.of (q32 n x y i) (bq32 n x y i ((peq32 n x y i).mp hp)))
def e32:List SV→Option (List Prop × SV)
 | [.sl 1 n g_1,.sl 1 m g_2]=>some ([Row 1 n g_1,Row 1 m g_2,n≤100000,m≤100000],.bool (M.same1 n m (cI g_1 0) (cI g_2 0)))
 | _=>none
def Rr32 (n:Nat) (x:Nat→Int) (m:Nat) (y:Nat→Int):Prop:=(fun (z0 z1:Bool)=>(z1=true→false=M.same1 n m x y)∧(z1=false→((0:Nat)≤n∧n≤(100000:Nat))∧((n=n∧∀ (k:Nat),k<n→x k=x k)∧(m=n∧∀ (k:Nat),k<m→y k=y k)∧(0:Int)=(↑(0:Nat):Int)∧True)∧(z0=false→true=M.same1 n m x y)∧(z0=true→false=M.same1 n m x y))) (!M.alF (fun i=>decide (x i=y i)) (n-(0:Nat)) (0:Nat)) (!decide ((↑n:Int)=(↑m:Int)))
theorem r32 (n:Nat) (x:Nat→Int) (m:Nat) (y:Nat→Int):V true [] [] Try.f32 [0,1,4,5,10,14,25] [(0,loopT false Try.f32.ntmps 0 (lp32 n x y) (fun _ _ _=>(0:Nat)))] [.sl 1 n (fun k=>[SI (x k)]),.sl 1 m (fun k=>[SI (y k)])] (.bool (M.same1 n m x y))=Rr32 n x m y:=by kernel_rfl
theorem br32 (n:Nat) (x:Nat→Int) (m:Nat) (y:Nat→Int) (hp:(n≤100000)∧(m≤100000)∧AllP []):Rr32 n x m y:=by
 unfold Rr32
 dsimp -iota -proj -eta -zeta only
 obtain ⟨h1,h2,-⟩:=id hp
 unfold M.same1
 by_cases c:n=m
 ·subst c
  simp [h1]
 ·have c':¬ (n:Int)=m:=by omega
  simp [c,c',h1]
theorem s32:PureOK PP 32 e32:=by
 intro xs ps res h hp
 unfold e32 at h
 split at h
 ·rename_i n g_1 m g_2
  cases h
  simp only [AllP.cons] at hp
  obtain ⟨Hg_1,Hg_2,hp⟩:=hp
  exact Spec.args (enterH (Hold.of (r32 n (cI g_1 0) m (cI g_2 0)) (br32 n (cI g_1 0) m (cI g_2 0) hp)) (.nil) (.nil) (k:=32) (by kernel_rfl) (by kernel_rfl) (fun Y=>.cons (by kernel_rfl) (t32 n (cI g_1 0) (cI g_2 0) FOK.wide Y) (.nil))) (.cons (.row Hg_1 fun _=>rfl) (.cons (.row Hg_2 fun _=>rfl) .nil))
 ·cases h
def e16:List SV→Option (List Prop × SV)
 | [.sl 1 nx g_1,.sl 5 n g_2,.sl 6 m g_3]=>some ([Row 1 nx g_1,Row 5 n g_2,Row 6 m g_3],.bool (decide (nx≤70∧n≤300∧m≤70∧n*m≤3000)))
 | _=>none
def e53:List SV→Option (List Prop × SV)
 | []=>some ([],.agg [SI 5,SI 1,SI 1000,SI 1000,SI 2000,SI 0,SI 0,SI 0])
 | _=>none
def Rr53  : Prop:=(5:Int)=(5:Int)∧(1:Int)=(1:Int)∧(1000:Int)=(1000:Int)∧(1000:Int)=(1000:Int)∧(2000:Int)=(2000:Int)∧(0:Int)=(0:Int)∧(0:Int)=(0:Int)∧(0:Int)=(0:Int)
theorem r53  : V true [] [] Try.f53 [0] [] [] (.agg [SI 5,SI 1,SI 1000,SI 1000,SI 2000,SI 0,SI 0,SI 0])=Rr53  := by kernel_rfl
theorem br53   : Rr53  := by
 unfold Rr53
 simp
theorem s53:PureOK PP 53 e53:=by
 intro xs ps res h hp
 unfold e53 at h
 split at h
 ·skip
  cases h
  clear hp
  exact enterH (Hold.of (r53 ) (br53  )) (.nil) (.nil) (k:=53) (by kernel_rfl) (by kernel_rfl) (fun _=>.nil)
 ·cases h
def e54:List SV→Option (List Prop × SV)
 | []=>some ([],.sl 1 2 (fun k=>[SI (M.exS k)]))
 | _=>none
def Rr54  : Prop:=(0:Nat)+(2:Nat)≤(2:Nat)∧(2:Nat)=(2:Nat)∧∀ (k:Nat),k<(2:Nat)→(bif decide ((0:Nat)+k=(1:Nat)) then (4:Int) else bif decide ((0:Nat)+k=(0:Nat)) then (0:Int) else (0:Int))=M.exS k
theorem r54  : V true [] [] Try.f54 [0] [] [] (.sl 1 2 (fun k=>[SI (M.exS k)]))=Rr54  := by kernel_rfl
theorem br54   : Rr54  := by
 unfold Rr54
 refine ⟨by omega,rfl,?_⟩
 intro k hk
 rcases k with _ | _ | k
 ·rfl
 ·rfl
 ·omega
theorem s54:PureOK PP 54 e54:=by
 intro xs ps res h hp
 unfold e54 at h
 split at h
 ·skip
  cases h
  clear hp
  exact enterH (Hold.of (r54 ) (br54  )) (.nil) (.nil) (k:=54) (by kernel_rfl) (by kernel_rfl) (fun _=>.nil)
 ·cases h
def e57:List SV→Option (List Prop × SV)
 | [.int .i64 c,.int .i64 a,.int .i64 b]=>some ([],.agg [SI 1,SI c,SI 5,SI a,SI b])
 | _=>none
def Rr57 (c a b:Int):Prop:=(1:Int)=(1:Int)∧c=c∧(5:Int)=(5:Int)∧a=a∧b=b
theorem r57 (c a b:Int):V true [] [] Try.f57 [0,1,2,6] [] [SI c,SI a,SI b] (.agg [SI 1,SI c,SI 5,SI a,SI b])=Rr57 c a b:=by kernel_rfl
theorem br57 (c a b:Int)  : Rr57 c a b:=by
 unfold Rr57
 simp
theorem s57:PureOK PP 57 e57:=by
 intro xs ps res h hp
 unfold e57 at h
 split at h
 ·rename_i c a b
  cases h
  clear hp
  exact enterH (Hold.of (r57 c a b) (br57 c a b )) (.nil) (.nil) (k:=57) (by kernel_rfl) (by kernel_rfl) (fun _=>.nil)
 ·cases h
def e58:List SV→Option (List Prop × SV)
 | [.int .i64 c,.int .i64 a]=>some ([],.agg [SI 1,SI c,SI a,SI a,SI 0,SI 0])
 | _=>none
def Rr58 (c a:Int):Prop:=(1:Int)=(1:Int)∧c=c∧a=a∧a=a∧(0:Int)=(0:Int)∧(0:Int)=(0:Int)
theorem r58 (c a:Int):V true [] [] Try.f58 [0,1,4] [] [SI c,SI a] (.agg [SI 1,SI c,SI a,SI a,SI 0,SI 0])=Rr58 c a:=by kernel_rfl
theorem br58 (c a:Int)  : Rr58 c a:=by
 unfold Rr58
 simp
theorem s58:PureOK PP 58 e58:=by
 intro xs ps res h hp
 unfold e58 at h
 split at h
 ·rename_i c a
  cases h
  clear hp
  exact enterH (Hold.of (r58 c a) (br58 c a )) (.nil) (.nil) (k:=58) (by kernel_rfl) (by kernel_rfl) (fun _=>.nil)
 ·cases h
def e55:List SV→Option (List Prop × SV)
 | []=>some ([],.sl 6 2 (fun k=>[SI (M.exP k).k,SI (M.exP k).s,SI (M.exP k).t0,SI (M.exP k).t1,SI (M.exP k).l0,SI (M.exP k).l1]))
 | _=>none
def Rr55:Prop:=(fun (z1:Int) (z0 z2:Nat)=>z0+(2:Nat)≤(2:Nat)∧(2:Nat)=(2:Nat)∧∀ (k:Nat),k<(2:Nat)→(bif decide (z0+k=z2) then (1:Int) else bif decide (z0+k=z0) then (1:Int) else z1)=(M.exP k).k∧(bif decide (z0+k=z2) then (1:Int) else bif decide (z0+k=z0) then z1 else z1)=(M.exP k).s∧(bif decide (z0+k=z2) then (5000:Int) else bif decide (z0+k=z0) then (8000:Int) else z1)=(M.exP k).t0∧(bif decide (z0+k=z2) then (5000:Int) else bif decide (z0+k=z0) then (8000:Int) else z1)=(M.exP k).t1∧(bif decide (z0+k=z2) then z1 else bif decide (z0+k=z0) then z1 else z1)=(M.exP k).l0∧(bif decide (z0+k=z2) then z1 else bif decide (z0+k=z0) then z1 else z1)=(M.exP k).l1) (0:Int) (0:Nat) (1:Nat)
theorem r55  : V true [] [(58,pureE e58)] Try.f55 [0] [] [] (.sl 6 2 (fun k=>[SI (M.exP k).k,SI (M.exP k).s,SI (M.exP k).t0,SI (M.exP k).t1,SI (M.exP k).l0,SI (M.exP k).l1]))=Rr55  := by kernel_rfl
theorem br55   : Rr55  := by
 unfold Rr55
 dsimp -iota -proj -eta -zeta only
 refine ⟨by omega,rfl,?_⟩
 intro k hk
 rcases k with _ | _ | k
 ·exact ⟨rfl,rfl,rfl,rfl,rfl,rfl⟩
 ·exact ⟨rfl,rfl,rfl,rfl,rfl,rfl⟩
 ·omega
theorem s55:PureOK PP 55 e55:=by
 intro xs ps res h hp
 unfold e55 at h
 split at h
 ·skip
  cases h
  clear hp
  exact enterH (Hold.of (r55 ) (br55  )) (.nil) (.cons (pureE_ok s58) (.nil)) (k:=55) (by kernel_rfl) (by kernel_rfl) (fun _=>.nil)
 ·cases h
def lp56:LoopS where
 ι:=Nat
 β:=Unit
 pre i:=i≤5
 μ i:=5-i
 next i _ _ _:=i+1
 out _:=()
 early _:=false
 SA i:=[(1,.vec 0 5 0 i),(2,SI i)]
 SH i:=[(0,.row 5 i (fun k=>[SI 1,SI (k:Int),SI 5,SI 0,SI 10000]))]
 n0:=1
 NA _:=[(1,.vec 0 5 0 5)]
 NH _:=[(0,.row 5 5 (fun k=>[SI 1,SI (k:Int),SI 5,SI 0,SI 10000]))]
 n1:=1
 RA _:=[]
 RH _:=[]
def Rq56  (i:Nat):Prop:=(fun (z1 z2 z3 z4:Int) (z0 z5:Nat)=>(decide (z4<z2)=true→(0:Nat)+(1:Nat)≤(1:Nat)∧(∀ (k:Nat),k<(1:Nat)→true=true)∧i≤i∧z0*(40:Nat)≤(140737488355328:Nat)∧R64 (z4+z3)∧z0≤z5∧z5-z0<z5-i∧()=()∧(0:Nat)=(0:Nat)∧z0=z0∧z4+z3=(↑z0:Int)∧z0≤z0∧(∀ (k:Nat),k<z0→(bif decide (k<i) then z3 else z3)=z3∧(bif decide (k<i) then (↑k:Int) else z4)=(↑k:Int)∧(bif decide (k<i) then z2 else z2)=z2∧(bif decide (k<i) then (0:Int) else (0:Int))=(0:Int)∧(bif decide (k<i) then z1 else z1)=z1)∧True)∧(decide (z4<z2)=false→false=false∧(0:Nat)=(0:Nat)∧i=z5∧z5≤i∧(∀ (k:Nat),k<z5→z3=z3∧(↑k:Int)=(↑k:Int)∧z2=z2∧(0:Int)=(0:Int)∧z1=z1)∧True)) (10000:Int) (5:Int) (1:Int) (↑i:Int) (i+(1:Nat)) (5:Nat)
theorem q56  (i:Nat):VL true [] [] YS.none Try.f56 0 [0,1,2,4] [] 0 lp56 (i)=Rq56 i:=by kernel_rfl
theorem peq56  (i:Nat):lp56.pre (i)=(i≤(5:Nat)):=by kernel_rfl
theorem bq56  (i:Nat) (hp:i≤(5:Nat)):Rq56 i:=by
 unfold Rq56
 dsimp -iota -proj -eta -zeta only
 have h1:=id hp
 have r1:R64 ((i:Int)+1):=by unfold R64; omega
 by_cases hl:i<5
 ·have hl':(i:Int)<5:=by omega
  have e3:∀ k,k<i+1→(bif decide (k<i) then (k:Int) else (i:Int))=k:=fun k hk2=>by
   by_cases d1:k<i
   ·simp [d1]
   ·have:k=i:=by omega
    subst this; simp
  simp [hl,hl',r1]
  repeat' apply And.intro
  all_goals first | omega | exact fun k hk2=>by simpa using e3 k hk2
 ·have e:i=5:=by omega
  subst e
  simp
theorem t56  {F:Fence} (hF:FOK F) (Y:YEnv PP YS.none):∀ Q A H nx,loopT false Try.f56.ntmps 0 lp56 (fun _ _ _=>(0:Nat)) Q A H nx→WPS Y F Try.f56.ntmps 0 (.block 0 (blkAt 0 Try.f56)) Q A H nx :=
 loopW (E:=[]) (.nil) (O:=[]) (.nil) (ck:=true) (L:=[0,1,2,4]) (f:=Try.f56) (m:=0) (id:=0) (l:=lp56) (LI:=fun i=>[]) Y hF (by kernel_rfl) (fun _=>.nil) (by
  rintro i hp
  exact Hold.of (q56 i) (bq56 i ((peq56 i).mp hp)))
def e56:List SV→Option (List Prop × SV)
 | []=>some ([],.sl 5 5 (fun k=>[SI (M.exL k).k,SI (M.exL k).c,SI (M.exL k).q,SI (M.exL k).a,SI (M.exL k).b]))
 | _=>none
def Rr56:Prop:=(fun (z0 z1:Nat)=>z0≤z1∧(z0=z0∧(0:Int)=(↑z0:Int)∧z0=z0∧True)∧(false=false→z0+z1≤z1∧z1=z1∧∀ (k:Nat),k<z1→(1:Int)=(1:Int)∧(↑(z0+k):Int)=(↑k:Int)∧(5:Int)=(5:Int)∧(0:Int)=(0:Int)∧(10000:Int)=(10000:Int))∧(false=true→False)) (0:Nat) (5:Nat)
theorem r56  : V true [] [] Try.f56 [0,1,2,4] [(0,loopT false Try.f56.ntmps 0 lp56 (fun _ _ _=>(0:Nat)))] [] (.sl 5 5 (fun k=>[SI (M.exL k).k,SI (M.exL k).c,SI (M.exL k).q,SI (M.exL k).a,SI (M.exL k).b]))=Rr56  := by kernel_rfl
theorem br56   : Rr56  := by
 unfold Rr56
 dsimp -iota -proj -eta -zeta only
 simp [M.exL]
theorem s56:PureOK PP 56 e56:=by
 intro xs ps res h hp
 unfold e56 at h
 split at h
 ·skip
  cases h
  clear hp
  exact enterH (Hold.of (r56 ) (br56  )) (.nil) (.nil) (k:=56) (by kernel_rfl) (by kernel_rfl) (fun Y=>.cons (by kernel_rfl) (t56  FOK.wide Y) (.nil))
 ·cases h
def e17:List SV→Option (List Prop × SV)
 | []=>some ([],.bool true)
 | _=>none
def Rr17:Prop:=(fun (z9:Int) (z12 z13 z15:Nat)=>(fun (z3:M.Gd) (z7:M.Sc) (z4:Nat→List SV) (z6:Nat→M.Sc) (z11 z16 z24:Prop)=>(fun (z10 z17:Int) (z14:Nat) (z25:Nat→Int) (z8:Nat→M.Sc)=>(fun (z5:Bool) (z18:Nat) (z20:Prop)=>(fun (z1:Bool) (z22:Prop)=>(fun (z0:Bool) (z19:Prop)=>(fun (z2:Bool) (z21:Prop)=>(fun (z23:Prop)=>z24∧(∀ (k:Nat),k<(5:Nat)→(1:Int)=(1:Int)∧(↑k:Int)=(↑k:Int)∧(5:Int)=(5:Int)∧z9=z9∧(10000:Int)=(10000:Int))∧z11∧z16∧(5:Nat)≤(100000:Nat)∧z16∧z9≤(2:Int)∧(2:Int)<(↑(5:Nat):Int)∧Int.toNat (2:Int)<(5:Nat)∧z24∧z11∧z16∧z16∧(z20→z20)∧(z20→z20)∧(z5=true→z5=true)∧(z5=true→z5=true)∧(z22→z22)∧(z19→z19∧z19∧(z19→z19)∧(z19→z13+z12≤z12)∧(z19→∀ (k:Nat),(k<z18)→(z8 k).k=(z8 k).k∧(z8 k).c=(z8 k).c∧(z8 k).q=(z8 k).q∧(z8 k).a=(z8 k).a∧(z8 k).b=(z8 k).b)∧(z19→∀ (k:Nat),k<z12→(bif decide (z13+k=z15) then (1:Int) else bif decide (z13+k=z13) then (1:Int) else z9)=cI z4 z13 k∧(bif decide (z13+k=z15) then (4:Int) else bif decide (z13+k=z13) then (3:Int) else z9)=cI z4 (z13+z15) k∧(bif decide (z13+k=z15) then (5:Int) else bif decide (z13+k=z13) then (5:Int) else z9)=cI z4 (z13+z15+z15) k∧(bif decide (z13+k=z15) then (3585:Int) else bif decide (z13+k=z13) then (3876:Int) else z9)=cI z4 (z13+z15+z15+z15) k∧(bif decide (z13+k=z15) then (5000:Int) else bif decide (z13+k=z13) then (5000:Int) else z9)=cI z4 (z13+z15+z15+z15+z15) k)∧(z19→z18≤(100000:Nat))∧(z19→z16)∧(z19→z19)∧(z21→(z21→z21)∧(z21→z13+z12≤z12)∧(z21→∀ (k:Nat),(k<z14)→z25 k=z25 k)∧(z21→∀ (k:Nat),k<z12→(bif decide (z13+k=z15) then (1:Int) else bif decide (z13+k=z13) then z9 else z9)=cI (fun k=>(if z12=z15 then fun x=>[SV.int IntKind.i64 (1:Int)] else fun k=>[SV.int IntKind.i64 (bif decide (k=(1:Nat)) then (1:Int) else bif decide (k=(0:Nat)) then (0:Int) else (0:Int))]) (z13+k)) z13 k)∧(z21→z14≤(100000:Nat))∧(z21→z16)∧(z21→z21)∧z23∧z23∧z23∧(bif z2 then decide ((if z17=z9 then M.Gd.S0 z3 (5:Int) z9 z9 else z9)=(470:Int)) && (decide ((if z17=z9 then M.Gd.S1 z3 (5:Int) z9 z9 else z9)=(500:Int)) && true) else false)=true)∧(z0=false→False))∧(z1=false→False)) (z2=true→z2=true)) (bif z0 then M.same1 z14 z12 z25 (cI (fun k=>(if z12=z15 then fun x=>[SV.int IntKind.i64 (1:Int)] else fun k=>[SV.int IntKind.i64 (bif decide (k=(1:Nat)) then (1:Int) else bif decide (k=(0:Nat)) then (0:Int) else (0:Int))]) (z13+k)) z13) else false) (z0=true)) (bif z1 then M.same z18 z12 z8 fun i=>M.Sc.mk (cI z4 z13 i) (cI z4 z15 i) (cI z4 z12 i) (cI z4 (3:Nat) i) (cI z4 (4:Nat) i) else false) (z1=true)) (bif bif z5 then decide (z17=z9) else false then decide (M.Gd.ck1 z3 z12 M.exS z7 z12 M.exP z9=z9∧M.Gd.stA z3 M.exS z7 z12 M.exP z9=true) else false) ((bif z5 then decide (z17=z9) else false)=true)) (bif decide (z10=z9) then decide (M.Gd.ck1 z3 z12 M.exS z7 z12 M.exP z9=z9) else false) (if z10=z9 then M.Gd.leN z3 M.exS z6 z12 M.exP z9 (5:Nat) else z13) (decide (z10=z9)=true)) (M.Gd.ckE z3 z12 M.exS (5:Nat) z6 z12 M.exP z9) (M.Gd.stE z3 (5:Int) z9 z9) (if M.Gd.ck1 z3 z12 M.exS z7 z12 M.exP z9=z9∧M.Gd.stA z3 M.exS z7 z12 M.exP z9=true then M.Gd.prN z3 M.exS z7 z12 M.exP z9 z12 else z13) (M.Gd.prR z3 M.exS z7 z12 M.exP z9 z12) (M.Gd.leR z3 M.exS z6 z12 M.exP z9 (5:Nat))) (M.Gd.mk (5:Int) (1:Int) (1000:Int) (1000:Int) (2000:Int) z9 z9 z9) (M.Sc.mk (1:Int) (↑(Int.toNat (2:Int)):Int) (5:Int) z9 (10000:Int)) (fun k=>(if z12=z15 then fun x=>[SV.int IntKind.i64 (1:Int),SV.int IntKind.i64 (4:Int),SV.int IntKind.i64 (5:Int),SV.int IntKind.i64 (3585:Int),SV.int IntKind.i64 (5000:Int)] else fun k=>[SV.int IntKind.i64 (bif decide (k=(1:Nat)) then (1:Int) else bif decide (k=(0:Nat)) then (1:Int) else (0:Int)),SV.int IntKind.i64 (bif decide (k=(1:Nat)) then (4:Int) else bif decide (k=(0:Nat)) then (3:Int) else (0:Int)),SV.int IntKind.i64 (bif decide (k=(1:Nat)) then (5:Int) else bif decide (k=(0:Nat)) then (5:Int) else (0:Int)),SV.int IntKind.i64 (bif decide (k=(1:Nat)) then (3585:Int) else bif decide (k=(0:Nat)) then (3876:Int) else (0:Int)),SV.int IntKind.i64 (bif decide (k=(1:Nat)) then (5000:Int) else bif decide (k=(0:Nat)) then (5000:Int) else (0:Int))]) (z13+k)) (fun i=>M.Sc.mk (1:Int) (↑i:Int) (5:Int) z9 (10000:Int)) (∀ (k:Nat),k<z12→(M.exP k).k=(M.exP k).k∧(M.exP k).s=(M.exP k).s∧(M.exP k).t0=(M.exP k).t0∧(M.exP k).t1=(M.exP k).t1∧(M.exP k).l0=(M.exP k).l0∧(M.exP k).l1=(M.exP k).l1) (z12≤(100000:Nat)) (∀ (k:Nat),k<z12→M.exS k=M.exS k)) (0:Int) (2:Nat) (0:Nat) (1:Nat)
theorem r17  : V true eqs [(53,pureE e53),(54,pureE e54),(56,pureE e56),(55,pureE e55),(18,pureE e18),(30,pureE e30),(26,pureE e26),(57,pureE e57),(21,pureE e21),(32,pureE e32)] Try.f17 [0,1,2,3,4,5,6,7] [] [] (.bool true)=Rr17  := by kernel_rfl
theorem br17   : Rr17  := by
 unfold Rr17
 dsimp -iota -proj -eta -zeta only
 set_option synthInstance.maxSize 100000 in
 set_option synthInstance.maxHeartbeats 0 in
 set_option maxRecDepth 100000 in
 decide +kernel
theorem s17:PureOK PP 17 e17:=by
 intro xs ps res h hp
 unfold e17 at h
 split at h
 ·skip
  cases h
  clear hp
  exact enterH (Hold.of (r17 ) (br17  )) (eqsok) (.cons (pureE_ok s53) (.cons (pureE_ok s54) (.cons (pureE_ok s56) (.cons (pureE_ok s55) (.cons (pureE_ok s18) (.cons (pureE_ok s30) (.cons (pureE_ok s26) (.cons (pureE_ok s57) (.cons (pureE_ok s21) (.cons (pureE_ok s32) (.nil))))))))))) (k:=17) (by kernel_rfl) (by kernel_rfl) (fun _=>.nil)
 ·cases h
end Go.Proofs.Ytoncoofmijjgeaa.Sep
