/-
  Texts of one seat, joined. No condition. (This text proves no statement by itself.)
-/
import Derived.Test.YtoncoofmijjgeaaKR10
import Derived.Test.YtoncoofmijjgeaaKN1
namespace Go.Proofs.Ytoncoofmijjgeaa.Sep
open Go
set_option linter.unusedVariables false
set_option linter.unusedSimpArgs false
def Rr5 (w ht s v0 v1 d0 d1 r:Int) (c a b:Int):Prop:=(fun (z2:M.Gd)=>(fun (z0:Bool) (z4:Prop)=>(fun (z1:Bool) (z3 z6:Prop)=>(fun (z5:Bool) (z7:Prop)=>(z4→z4)∧(z4→z4)∧(z4→z4)∧z6∧z6∧z6∧(z3→z3)∧(z3→z3)∧(z3→z3)∧z7∧z7∧z7∧(z5=true→z5=true)∧(bif z5 then true else false)=true) (bif z1 then decide (M.Gd.stE z2 c a b=M.Gd.stE z2 c a b) else false) (z1=true→z1=true)) (bif bif z0 then decide (M.Gd.kn2 z2 a b=M.Gd.kn2 z2 a b) else false then decide ((if M.Gd.stE z2 c a b=(0:Int) then M.Gd.S0 z2 c a b else (0:Int))=if M.Gd.stE z2 c a b=(0:Int) then M.Gd.S0 z2 c a b else (0:Int)) && (decide ((if M.Gd.stE z2 c a b=(0:Int) then M.Gd.S1 z2 c a b else (0:Int))=if M.Gd.stE z2 c a b=(0:Int) then M.Gd.S1 z2 c a b else (0:Int)) && true) else false) ((bif z0 then decide (M.Gd.kn2 z2 a b=M.Gd.kn2 z2 a b) else false)=true) (z0=true→z0=true)) (bif decide (M.Gd.er z2=M.Gd.er z2) then decide ((if M.Gd.kn2 z2 a b=(0:Int) then M.Gd.T0 z2 a b else (0:Int))=if M.Gd.kn2 z2 a b=(0:Int) then M.Gd.T0 z2 a b else (0:Int)) && (decide ((if M.Gd.kn2 z2 a b=(0:Int) then M.Gd.T1 z2 a b else (0:Int))=if M.Gd.kn2 z2 a b=(0:Int) then M.Gd.T1 z2 a b else (0:Int)) && true) else false) (decide (M.Gd.er z2=M.Gd.er z2)=true)) (M.Gd.mk w ht s v0 v1 d0 d1 r)
theorem r5 (w ht s v0 v1 d0 d1 r:Int) (c a b:Int):V true eqs [(24,pureE e24),(25,pureE e25),(26,pureE e26),(27,pureE e27),(28,pureE e28),(29,pureE e29),(17,pureE e17)] Try.f5 [0,1,2,3,4,8,9,10,11,12,13,14,15,16,17] [] [.agg [SI w,SI ht,SI s,SI v0,SI v1,SI d0,SI d1,SI r],SI c,SI a,SI b] (.bool true)=Rr5 w ht s v0 v1 d0 d1 r c a b:=by kernel_rfl
def e20:List SV→Option (List Prop × SV)
 | [.sl 6 m g_1]=>some ([Row 6 m g_1,m≤1000],.sl 6 m (fun j=>[SI ((cI g_1 0) j),SI ((cI g_1 1) j),SI ((cI g_1 2) j),SI ((cI g_1 3) j),SI ((cI g_1 4) j),SI ((cI g_1 5) j)]))
 | _=>none
def e3:List SV→Option (List Prop × SV)
 | [.agg [.int .i64 w,.int .i64 ht,.int .i64 s,.int .i64 v0,.int .i64 v1,.int .i64 d0,.int .i64 d1,.int .i64 r],.sl 1 ns g_1,.sl 5 n g_2,.sl 6 m g_3,.int .i64 f]=>some ([Row 1 ns g_1,Row 5 n g_2,Row 6 m g_3],.bool true)
 | _=>none
def Rr3 (w ht s v0 v1 d0 d1 r:Int) (ns:Nat) (x:Nat→Int) (n:Nat) (sk sc sq sa sb:Nat→Int) (m:Nat) (pk ps pa pb pc pd:Nat→Int) (f:Int):Prop:=(fun (z7:Bool) (z2:Int) (z8:Nat) (z1:Nat→M.Sc) (z4 z5 z10:Prop)=>(fun (z3:Nat)=>(fun (z0:Bool) (z6:Prop)=>(fun (z9:Bool) (z11:Prop)=>z10∧z5∧z4∧(z7=true→true=true)∧(z7=false→z10∧z5∧z4∧ns≤z8∧n≤z8∧m≤z8∧z4∧m≤(1000:Nat)∧z10∧z5∧z4∧ns≤z8∧n≤z8∧m≤z8∧z6∧z6∧z3≤z8∧z3≤z8∧z11∧z11∧z11∧(z9=true→z9=true)∧(bif z9 then true else false)=true)) (bif z0 then decide (z2=z2) else false) (z0=true→z0=true)) (M.same z3 z3 (fun i=>M.Sc.mk (z1 i).k (z1 i).c (z1 i).q (z1 i).a (z1 i).b) fun i=>M.Sc.mk (z1 i).k (z1 i).c (z1 i).q (z1 i).a (z1 i).b) (∀ (k:Nat),(k<z3)→(z1 k).k=(z1 k).k∧(z1 k).c=(z1 k).c∧(z1 k).q=(z1 k).q∧(z1 k).a=(z1 k).a∧(z1 k).b=(z1 k).b)) (if z2=(0:Int) then M.Gd.leN (M.Gd.mk w ht s v0 v1 d0 d1 r) x (fun i=>M.Sc.mk (sk i) (sc i) (sq i) (sa i) (sb i)) m (fun i=>M.Pk.mk (pk i) (ps i) (pa i) (pb i) (pc i) (pd i)) f n else (0:Nat))) (!decide (ns≤(70:Nat)∧n≤(300:Nat)∧m≤(70:Nat)∧n*m≤(3000:Nat))) (M.Gd.ckE (M.Gd.mk w ht s v0 v1 d0 d1 r) ns x n (fun i=>M.Sc.mk (sk i) (sc i) (sq i) (sa i) (sb i)) m (fun i=>M.Pk.mk (pk i) (ps i) (pa i) (pb i) (pc i) (pd i)) f) (100000:Nat) (M.Gd.leR (M.Gd.mk w ht s v0 v1 d0 d1 r) x (fun i=>M.Sc.mk (sk i) (sc i) (sq i) (sa i) (sb i)) m (fun i=>M.Pk.mk (pk i) (ps i) (pa i) (pb i) (pc i) (pd i)) f n) (∀ (k:Nat),k<m→pk k=pk k∧ps k=ps k∧pa k=pa k∧pb k=pb k∧pc k=pc k∧pd k=pd k) (∀ (k:Nat),k<n→sk k=sk k∧sc k=sc k∧sq k=sq k∧sa k=sa k∧sb k=sb k) (∀ (k:Nat),k<ns→x k=x k)
theorem r3 (w ht s v0 v1 d0 d1 r:Int) (ns:Nat) (x:Nat→Int) (n:Nat) (sk sc sq sa sb:Nat→Int) (m:Nat) (pk ps pa pb pc pd:Nat→Int) (f:Int):V true [] [(16,pureE e16),(17,pureE e17),(18,pureE e18),(19,pureE e19),(20,pureE e20),(21,pureE e21)] Try.f3 [0,1,2,3,4,5,10,11,12,13,14,19] [] [.agg [SI w,SI ht,SI s,SI v0,SI v1,SI d0,SI d1,SI r],.sl 1 ns (fun k=>[SI (x k)]),.sl 5 n (fun k=>[SI (sk k),SI (sc k),SI (sq k),SI (sa k),SI (sb k)]),.sl 6 m (fun k=>[SI (pk k),SI (ps k),SI (pa k),SI (pb k),SI (pc k),SI (pd k)]),SI f] (.bool true)=Rr3 w ht s v0 v1 d0 d1 r ns x n sk sc sq sa sb m pk ps pa pb pc pd f:=by kernel_rfl
end Go.Proofs.Ytoncoofmijjgeaa.Sep
namespace Go.Proofs.Ytoncoofmijjgeaa.M
open Go
set_option linter.unusedVariables false
set_option linter.unusedSimpArgs false
namespace Gd
variable {g : Gd} {s : Nat → Sc} {f c : Int} {j n : Nat}
end Gd
end Go.Proofs.Ytoncoofmijjgeaa.M
namespace Go.Proofs.Ytoncoofmijjgeaa.M
open Go
set_option linter.unusedVariables false
set_option linter.unusedSimpArgs false
def nuE (m : Nat) (l : Nat → Int) (i : Nat) : Int := if 0 ≤ l i ∧ l i ≤ (m : Int) - 1 then (if 0 < i ∧ l i ≤ l (i - 1) then 2 else 0) else 4
theorem nuE_ok {m n : Nat} {l : Nat → Int} (h : fe (nuE m l) n 0 = 0) : (∀ k, k < n → 0 ≤ l k ∧ l k < m) ∧ n ≤ m := by
 rw [fe_all] at h
 have key : ∀ k, k < n → 0 ≤ l k ∧ l k < m := fun k hk => by
  have := h k hk
  unfold nuE at this
  split at this
  ·omega
  ·omega
 refine ⟨key, ?_⟩
 have up : ∀ k, k < n → (k : Int) ≤ l k := by
  intro k
  induction k with
  | zero => intro hk; have := key 0 hk; omega
  | succ k ih =>
   intro hk
   have h1 := ih (by omega)
   have h2 := h (k + 1) hk
   unfold nuE at h2
   split at h2
   ·split at h2
    ·omega
    ·rename_i c
     simp only [Nat.add_sub_cancel] at c
     omega
   ·omega
 rcases Nat.eq_zero_or_pos n with e | e
 ·omega
 ·have h1 := up (n - 1) (by omega)
  have h2 := key (n - 1) (by omega)
  omega
namespace Gd
def veE (g : Gd) (ns : Nat) (x : Nat → Int) (s : Sc) (m : Nat) (P : Nat → Pk) (f : Int) (n : Nat) (l : Nat → Int) : Int := if g.ck1 ns x s m P f = 0 then
 (if fe (nuE m l) n 0 = 0 then (if g.stk x s P f n l = true then 0 else 22) else fe (nuE m l) n 0) else g.ck1 ns x s m P f
end Gd
end Go.Proofs.Ytoncoofmijjgeaa.M
namespace Go.Proofs.Ytoncoofmijjgeaa.Sep
open Go
set_option linter.unusedVariables false
set_option linter.unusedSimpArgs false
--#def SOME(i) XX
def lp33 (w ht s v0 v1 d0 d1 r:Int) (ns:Nat) (x:Nat→Int) (f:Int) (zk zc zq za zb:Int) (m:Nat) (pk ps pa pb pc pd:Nat→Int) (nl:Nat) (l:Nat→Int):LoopS where
 ι:=Nat
 β:=Int
 pre i:=i≤nl∧nl≤100000∧m≤64
 μ i:=nl-i
 next i _ _ _:=i+1
 out i:=M.fe (M.nuE m l) (nl-i) i
 early q:=decide (q≠0)
 SA i:=[(3,.sl 6 m (fun j=>[SI (pk j),SI (ps j),SI (pa j),SI (pb j),SI (pc j),SI (pd j)])),(5,.sl 1 nl (fun k=>[SI (l k)])),(6,.ptr 0 0),(8,.ptr 1 0),(13,.ptr 2 0),(29,.sl 1 nl (fun k=>[SI (l k)])),(30,SI nl),(31,SI i)]
 SH _:=[(0,.cells [SI w,SI ht,SI s,SI v0,SI v1,SI d0,SI d1,SI r]),(1,.cells [SI zk,SI zc,SI zq,SI za,SI zb]),(2,.cells [SI w,SI ht,SI s,SI v0,SI v1,SI d0,SI d1,SI r,.sl 1 ns (fun k=>[SI (x k)]),SI f])]
 n0:=3
 NA _:=[(3,.sl 6 m (fun j=>[SI (pk j),SI (ps j),SI (pa j),SI (pb j),SI (pc j),SI (pd j)])),(5,.sl 1 nl (fun k=>[SI (l k)])),(6,.ptr 0 0),(8,.ptr 1 0),(13,.ptr 2 0)]
 NH _:=[(0,.cells [SI w,SI ht,SI s,SI v0,SI v1,SI d0,SI d1,SI r]),(1,.cells [SI zk,SI zc,SI zq,SI za,SI zb]),(2,.cells [SI w,SI ht,SI s,SI v0,SI v1,SI d0,SI d1,SI r,.sl 1 ns (fun k=>[SI (x k)]),SI f])]
 n1:=3
 RA q:=[(12,SI q)]
 RH _:=[]
def Rq33 (w ht s v0 v1 d0 d1 r:Int) (ns:Nat) (x:Nat→Int) (f:Int) (zk zc zq za zb:Int) (m:Nat) (pk ps pa pb pc pd:Nat→Int) (nl:Nat) (l:Nat→Int) (i:Nat):Prop:=(fun (z2 z4 z9:Int) (z10:Nat) (z1 z3 z6:Prop)=>(fun (z7 z11:Bool) (z12:Int) (z0:Prop)=>(fun (z5:Bool) (z8:Prop)=>(decide (z2<z9)=true→(0:Int)≤z2∧z2<z9∧Int.toNat z2<nl∧R64 ((↑m:Int)-(1:Int))∧(z7=true→z11=true∧(4:Int)=z4∧True)∧(z7=false→z8∧(z0→R64 z12)∧z8∧z8∧(z0→(0:Int)≤z12)∧(z0→z12<z9)∧z8∧(z0→Int.toNat z12<nl)∧z8∧z8∧z8∧(z5=true→z11=true∧(2:Int)=z4∧True)∧(z5=false→R64 (z2+(1:Int))∧(z10≤nl∧nl≤(100000:Nat)∧m≤(64:Nat))∧nl-z10<nl-i∧M.fe (M.nuE m l) (nl-z10) z10=z4∧z3∧z6∧z6∧z9=z9∧z2+(1:Int)=(↑z10:Int)∧z1)))∧(decide (z2<z9)=false→z11=false∧z3∧z6∧z1)) (bif decide ((0:Int)<z2) then decide (l (Int.toNat z2)≤l (Int.toNat z12)) else false) (z0→z0)) (!decide ((0:Int)≤l (Int.toNat z2)∧l (Int.toNat z2)≤(↑m:Int)-(1:Int))) (decide (z4≠(0:Int))) (z2-(1:Int)) (decide ((0:Int)<z2)=true)) (↑i:Int) (M.fe (M.nuE m l) (nl-i) i) (↑nl:Int) (i+(1:Nat)) (w=w∧ht=ht∧s=s∧v0=v0∧v1=v1∧d0=d0∧d1=d1∧r=r∧zk=zk∧zc=zc∧zq=zq∧za=za∧zb=zb∧w=w∧ht=ht∧s=s∧v0=v0∧v1=v1∧d0=d0∧d1=d1∧r=r∧(ns=ns∧∀ (k:Nat),k<ns→x k=x k)∧f=f∧True) (m=m∧∀ (k:Nat),k<m→pk k=pk k∧ps k=ps k∧pa k=pa k∧pb k=pb k∧pc k=pc k∧pd k=pd k) (nl=nl∧∀ (k:Nat),k<nl→l k=l k)
theorem q33 (w ht s v0 v1 d0 d1 r:Int) (ns:Nat) (x:Nat→Int) (f:Int) (zk zc zq za zb:Int) (m:Nat) (pk ps pa pb pc pd:Nat→Int) (nl:Nat) (l:Nat→Int) (i:Nat):VL true [] [(67,pureE e67)] YS.none Try.f33 0 [0,1,2,3,4,5,6,8,12,13,14,15,16,27,29,30,31,32,36,43,61] [] 0 (lp33 w ht s v0 v1 d0 d1 r ns x f zk zc zq za zb m pk ps pa pb pc pd nl l) (i)=Rq33 w ht s v0 v1 d0 d1 r ns x f zk zc zq za zb m pk ps pa pb pc pd nl l i:=by kernel_rfl
theorem peq33 (w ht s v0 v1 d0 d1 r:Int) (ns:Nat) (x:Nat→Int) (f:Int) (zk zc zq za zb:Int) (m:Nat) (pk ps pa pb pc pd:Nat→Int) (nl:Nat) (l:Nat→Int) (i:Nat):(lp33 w ht s v0 v1 d0 d1 r ns x f zk zc zq za zb m pk ps pa pb pc pd nl l).pre (i)=(i≤nl∧nl≤(100000:Nat)∧m≤(64:Nat)):=by kernel_rfl
theorem bq33 (w ht s v0 v1 d0 d1 r:Int) (ns:Nat) (x:Nat→Int) (f:Int) (zk zc zq za zb:Int) (m:Nat) (pk ps pa pb pc pd:Nat→Int) (nl:Nat) (l:Nat→Int) (i:Nat) (hp:i≤nl∧nl≤(100000:Nat)∧m≤(64:Nat)):Rq33 w ht s v0 v1 d0 d1 r ns x f zk zc zq za zb m pk ps pa pb pc pd nl l i:=by
 unfold Rq33
 dsimp -iota -proj -eta -zeta only
 obtain ⟨h1,h2,hm⟩:=id hp
 have r1:R64 ((i:Int)+1):=by unfold R64; omega
 have r2:R64 ((i:Int)-1):=by unfold R64; omega
 have r3:R64 ((m:Int)-1):=by unfold R64; omega
 have t1:((i:Int)-1).toNat=i-1:=by omega
 have f1:=@M.fe_step (M.nuE m l) nl i
 have f2:=@M.fe_stop (M.nuE m l) nl i
 have f3:=@M.fe_end (M.nuE m l) nl i
 simp only [Int.toNat_natCast,r1,r2,r3,t1]
 generalize M.fe (M.nuE m l) (nl-i) i=F at *
 generalize M.fe (M.nuE m l) (nl-(i+1)) (i+1)=F' at *
 unfold M.nuE at f1 f2
 by_cases hl:i<nl
 ·have f1:=f1 hl
  have f2:=f2 hl
  clear f3
  have t2:i-1<nl:=by omega
  by_cases c1:0≤l i∧l i≤(m:Int)-1
  ·by_cases c2:0<i
   ·have c2':(0:Int)<i:=by omega
    by_cases c3:l i≤l (i-1)
    ·simp [c1,c2,c3] at f2
     simp [hl,c1,c2,c2',c3,f2,t2]
     try omega
    ·simp [c1,c2,c3] at f1
     subst f1
     simp [hl,c1,c2,c2',c3,t2]
     try omega
   ·have c2':¬ (0:Int)<i:=by omega
    simp [c1,c2] at f1
    subst f1
    simp [hl,c1,c2,c2',t2]
    try omega
  ·simp [c1] at f2
   simp [hl,c1,f2]
   try omega
 ·have f3:=f3 (by omega)
  subst f3
  simp [hl]
theorem t33 (w ht s v0 v1 d0 d1 r:Int) (ns:Nat) (x:Nat→Int) (f:Int) (zk zc zq za zb:Int) (m:Nat) (pk ps pa pb pc pd:Nat→Int) (nl:Nat) (l:Nat→Int) {F:Fence} (hF:FOK F) (Y:YEnv PP YS.none):∀ Q A H nx,loopT false Try.f33.ntmps 0 (lp33 w ht s v0 v1 d0 d1 r ns x f zk zc zq za zb m pk ps pa pb pc pd nl l) (fun _ _ _=>(0:Nat)) Q A H nx→WPS Y F Try.f33.ntmps 0 (.block 0 (blkAt 0 Try.f33)) Q A H nx :=
 loopW (E:=[]) (.nil) (O:=[(67,pureE e67)]) (.cons (pureE_ok s67) (.nil)) (ck:=true) (L:=[0,1,2,3,4,5,6,8,12,13,14,15,16,27,29,30,31,32,36,43,61]) (f:=Try.f33) (m:=0) (id:=0) (l:=(lp33 w ht s v0 v1 d0 d1 r ns x f zk zc zq za zb m pk ps pa pb pc pd nl l)) (LI:=fun i=>[]) Y hF (by kernel_rfl) (fun _=>.nil) (by
  rintro i hp
  exact Hold.of (q33 w ht s v0 v1 d0 d1 r ns x f zk zc zq za zb m pk ps pa pb pc pd nl l i) (bq33 w ht s v0 v1 d0 d1 r ns x f zk zc zq za zb m pk ps pa pb pc pd nl l i ((peq33 w ht s v0 v1 d0 d1 r ns x f zk zc zq za zb m pk ps pa pb pc pd nl l i).mp hp)))
def e33:List SV→Option (List Prop × SV)
 | [.agg [.int .i64 w,.int .i64 ht,.int .i64 s,.int .i64 v0,.int .i64 v1,.int .i64 d0,.int .i64 d1,.int .i64 r],.sl 1 ns g_1,.agg [.int .i64 zk,.int .i64 zc,.int .i64 zq,.int .i64 za,.int .i64 zb],.sl 6 m g_2,.int .i64 f,.sl 1 nl g_3]=>some ([Row 1 ns g_1,Row 6 m g_2,Row 1 nl g_3,ns≤100000,m≤100000,nl≤100000],SI (M.Gd.veE (M.Gd.mk w ht s v0 v1 d0 d1 r) ns (cI g_1 0) (M.Sc.mk zk zc zq za zb) m (fun i=>M.Pk.mk ((cI g_2 0) i) ((cI g_2 1) i) ((cI g_2 2) i) ((cI g_2 3) i) ((cI g_2 4) i) ((cI g_2 5) i)) f nl (cI g_3 0)))
 | _=>none
def Rr33 (w ht s v0 v1 d0 d1 r:Int) (ns:Nat) (x:Nat→Int) (f:Int) (zk zc zq za zb:Int) (m:Nat) (pk ps pa pb pc pd:Nat→Int) (nl:Nat) (l:Nat→Int):Prop:=(fun (z6 z9:Int) (z1:M.Gd) (z3:M.Sc) (z10:Nat) (z0:Nat→M.Pk) (z2 z7 z8:Prop)=>(fun (z4 z5:Int)=>(0:Nat)+(1:Nat)≤(1:Nat)∧z7∧(∀ (k:Nat),k<(1:Nat)→zk=zk∧zc=zc∧zq=zq∧za=za∧zb=zb)∧z2∧ns≤z10∧(1:Nat)≤z10∧m≤z10∧((!decide (z4=z9))=true→z4=z5)∧((!decide (z4=z9))=false→((0:Nat)≤nl∧nl≤z10∧m≤(64:Nat))∧((m=m∧z2)∧(nl=nl∧z8)∧(nl=nl∧z8)∧(↑nl:Int)=(↑nl:Int)∧z9=(↑(0:Nat):Int)∧w=w∧ht=ht∧s=s∧v0=v0∧v1=v1∧d0=d0∧d1=d1∧r=r∧zk=zk∧zc=zc∧zq=zq∧za=za∧zb=zb∧w=w∧ht=ht∧s=s∧v0=v0∧v1=v1∧d0=d0∧d1=d1∧r=r∧(ns=ns∧z7)∧f=f∧True)∧(decide (z6≠z9)=false→z7∧z2∧z8∧M.Gd.ok z1∧M.Gd.all z1 ns x∧ns≤(64:Nat)∧M.Gd.Sok z1 z3∧(∀ (i:Nat),i<m→M.Pk.Vd ns (M.Pk.mk (pk i) (ps i) (pa i) (pb i) (pc i) (pd i)))∧m≤(64:Nat)∧z9≤f∧f≤(8:Int)∧nl≤(64:Nat)∧(∀ (k:Nat),k<nl→z9≤l k∧l k<(↑m:Int))∧((!M.Gd.stk z1 x z3 z0 f nl l)=true→(22:Int)=z5)∧((!M.Gd.stk z1 x z3 z0 f nl l)=false→z9=z5))∧(decide (z6≠z9)=true→z6=z5))) (M.Gd.ckE z1 ns x (1:Nat) (fun i=>z3) m z0 f) (M.Gd.veE z1 ns x z3 m z0 f nl l)) (M.fe (M.nuE m l) (nl-(0:Nat)) (0:Nat)) (0:Int) (M.Gd.mk w ht s v0 v1 d0 d1 r) (M.Sc.mk zk zc zq za zb) (100000:Nat) (fun i=>M.Pk.mk (pk i) (ps i) (pa i) (pb i) (pc i) (pd i)) (∀ (k:Nat),k<m→pk k=pk k∧ps k=ps k∧pa k=pa k∧pb k=pb k∧pc k=pc k∧pd k=pd k) (∀ (k:Nat),k<ns→x k=x k) (∀ (k:Nat),k<nl→l k=l k)
theorem r33 (w ht s v0 v1 d0 d1 r:Int) (ns:Nat) (x:Nat→Int) (f:Int) (zk zc zq za zb:Int) (m:Nat) (pk ps pa pb pc pd:Nat→Int) (nl:Nat) (l:Nat→Int):V true [] [(59,pureE e59),(74,pureE e74p)] Try.f33 [0,1,2,3,4,5,6,8,12,13,14,15,16,27,29,30,31,32,36,43,61] [(0,loopT false Try.f33.ntmps 0 (lp33 w ht s v0 v1 d0 d1 r ns x f zk zc zq za zb m pk ps pa pb pc pd nl l) (fun _ _ _=>(0:Nat)))] [.agg [SI w,SI ht,SI s,SI v0,SI v1,SI d0,SI d1,SI r],.sl 1 ns (fun k=>[SI (x k)]),.agg [SI zk,SI zc,SI zq,SI za,SI zb],.sl 6 m (fun k=>[SI (pk k),SI (ps k),SI (pa k),SI (pb k),SI (pc k),SI (pd k)]),SI f,.sl 1 nl (fun k=>[SI (l k)])] (SI (M.Gd.veE (M.Gd.mk w ht s v0 v1 d0 d1 r) ns x (M.Sc.mk zk zc zq za zb) m (fun i=>M.Pk.mk (pk i) (ps i) (pa i) (pb i) (pc i) (pd i)) f nl l))=Rr33 w ht s v0 v1 d0 d1 r ns x f zk zc zq za zb m pk ps pa pb pc pd nl l:=by kernel_rfl
theorem br33 (w ht s v0 v1 d0 d1 r:Int) (ns:Nat) (x:Nat→Int) (f:Int) (zk zc zq za zb:Int) (m:Nat) (pk ps pa pb pc pd:Nat→Int) (nl:Nat) (l:Nat→Int) (hp:(ns≤100000)∧(m≤100000)∧(nl≤100000)∧AllP []):Rr33 w ht s v0 v1 d0 d1 r ns x f zk zc zq za zb m pk ps pa pb pc pd nl l:=by
 unfold Rr33
 dsimp -iota -proj -eta -zeta only
 obtain ⟨h1,h2,h3,-⟩:=id hp
 have e1:M.Gd.ckE (M.Gd.mk w ht s v0 v1 d0 d1 r) ns x 1 (fun _=>(M.Sc.mk zk zc zq za zb)) m (fun i=>M.Pk.mk (pk i) (ps i) (pa i) (pb i) (pc i) (pd i)) f=M.Gd.ck1 (M.Gd.mk w ht s v0 v1 d0 d1 r) ns x (M.Sc.mk zk zc zq za zb) m (fun i=>M.Pk.mk (pk i) (ps i) (pa i) (pb i) (pc i) (pd i)) f:=rfl
 have e2:M.Gd.stk (M.Gd.mk w ht s v0 v1 d0 d1 r) x (M.Sc.mk zk zc zq za zb) (fun i=>M.Pk.mk (pk i) (ps i) (pa i) (pb i) (pc i) (pd i)) f nl l=(decide (zk=1) && !(M.Gd.lft (M.Gd.mk w ht s v0 v1 d0 d1 r) x (M.Sc.mk zk zc zq za zb) nl (fun j=>M.Pk.mk (pk (l j).toNat) (ps (l j).toNat) (pa (l j).toNat) (pb (l j).toNat) (pc (l j).toNat) (pd (l j).toNat)) f).1):=rfl
 unfold M.Gd.veE
 simp only [e1]
 by_cases c:M.Gd.ck1 (M.Gd.mk w ht s v0 v1 d0 d1 r) ns x (M.Sc.mk zk zc zq za zb) m (fun i=>M.Pk.mk (pk i) (ps i) (pa i) (pb i) (pc i) (pd i)) f=0
 ·obtain ⟨hk,hn,ha,hz,hm,hP,f1,f2⟩:=M.Gd.ck1_ok c
  by_cases c2:M.fe (M.nuE m l) nl 0=0
  ·obtain ⟨hl,hnl⟩:=M.nuE_ok c2
   have hn2:nl≤64:=by omega
   have hPl:∀ k,k<nl→M.Pk.Vd ns (M.Pk.mk (pk (l k).toNat) (ps (l k).toNat) (pa (l k).toNat) (pb (l k).toNat) (pc (l k).toNat) (pd (l k).toNat)):=fun k hk2=>hP (l k).toNat (by have:=hl k hk2; omega)
   by_cases c3:M.Gd.stk (M.Gd.mk w ht s v0 v1 d0 d1 r) x (M.Sc.mk zk zc zq za zb) (fun i=>M.Pk.mk (pk i) (ps i) (pa i) (pb i) (pc i) (pd i)) f nl l=true
   ·simp [c,c2,c3,h1,h2,h3,hk,hn,hn2,ha,hz,hm,f1,f2]
    first | exact ⟨hP,hl⟩ | exact ⟨by omega,hl,hPl⟩ | (refine ⟨?_,?_⟩ <;> first | omega | exact hP | exact hl)
   ·simp [c,c2,c3,h1,h2,h3,hk,hn,hn2,ha,hz,hm,f1,f2]
    first | exact ⟨hP,hl⟩ | exact ⟨by omega,hl,hPl⟩ | (refine ⟨?_,?_⟩ <;> first | omega | exact hP | exact hl)
  ·simp [c,c2,h1,h2,h3,hk,hn,ha,hz,hm,f1,f2]
   try omega
 ·simp [c,h1,h2,h3]
theorem s33:PureOK PP 33 e33:=by
 intro xs ps res h hp
 unfold e33 at h
 split at h
 ·rename_i w ht s v0 v1 d0 d1 r ns g_1 zk zc zq za zb m g_2 f nl g_3
  cases h
  simp only [AllP.cons] at hp
  obtain ⟨Hg_1,Hg_2,Hg_3,hp⟩:=hp
  exact Spec.args (enterH (Hold.of (r33 w ht s v0 v1 d0 d1 r ns (cI g_1 0) f zk zc zq za zb m (cI g_2 0) (cI g_2 1) (cI g_2 2) (cI g_2 3) (cI g_2 4) (cI g_2 5) nl (cI g_3 0)) (br33 w ht s v0 v1 d0 d1 r ns (cI g_1 0) f zk zc zq za zb m (cI g_2 0) (cI g_2 1) (cI g_2 2) (cI g_2 3) (cI g_2 4) (cI g_2 5) nl (cI g_3 0) hp)) (.nil) (.cons (pureE_ok s59) (.cons (pureE_ok s74p) (.nil))) (k:=33) (by kernel_rfl) (by kernel_rfl) (fun Y=>.cons (by kernel_rfl) (t33 w ht s v0 v1 d0 d1 r ns (cI g_1 0) f zk zc zq za zb m (cI g_2 0) (cI g_2 1) (cI g_2 2) (cI g_2 3) (cI g_2 4) (cI g_2 5) nl (cI g_3 0) FOK.wide Y) (.nil))) (.cons (.refl _) (.cons (.row Hg_1 fun _=>rfl) (.cons (.refl _) (.cons (.row Hg_2 fun _=>rfl) (.cons (.refl _) (.cons (.row Hg_3 fun _=>rfl) .nil))))))
 ·cases h
end Go.Proofs.Ytoncoofmijjgeaa.Sep
