/-
  Texts of one seat, joined. No condition. (This text proves no statement by itself.)
-/
import Derived.Test.YtoncoofmijjgeaaKR10
namespace Go.Proofs.Ytoncoofmijjgeaa.Sep
open Go
set_option linter.unusedVariables false
set_option linter.unusedSimpArgs false
def lp20 (m:Nat) (pk ps pa pb pc pd:Nat→Int):LoopS where
 ι:=Nat
 β:=Unit
 pre i:=i≤m∧m≤1000
 μ i:=m-i
 next i _ _ _:=i+1
 out _:=()
 early _:=false
 SA i:=[(0,.sl 6 m (fun j=>[SI (pk j),SI (ps j),SI (pa j),SI (pb j),SI (pc j),SI (pd j)])),(3,.vec 0 6 0 i),(4,SI i)]
 SH i:=[(0,.row 6 i (fun j=>[SI (pk j),SI (ps j),SI (pa j),SI (pb j),SI (pc j),SI (pd j)]))]
 n0:=1
 NA _:=[(3,.vec 0 6 0 m)]
 NH _:=[(0,.row 6 m (fun j=>[SI (pk j),SI (ps j),SI (pa j),SI (pb j),SI (pc j),SI (pd j)]))]
 n1:=1
 RA _:=[]
 RH _:=[]
def Rq20 (m:Nat) (pk ps pa pb pc pd:Nat→Int) (i:Nat):Prop:=(fun (z3:Int) (z2:Nat) (z1:Prop)=>(fun (z0:Nat)=>(decide (z3<(↑m:Int))=true→(0:Int)≤z3∧z3<(↑m:Int)∧z0<m∧(0:Nat)+(1:Nat)≤(1:Nat)∧(∀ (k:Nat),k<(1:Nat)→true=true)∧i≤i∧z2*(48:Nat)≤(140737488355328:Nat)∧R64 (z3+(1:Int))∧(z2≤m∧m≤(1000:Nat))∧m-z2<m-i∧()=()∧(m=m∧z1)∧(0:Nat)=(0:Nat)∧z2=z2∧z3+(1:Int)=(↑z2:Int)∧z2≤z2∧(∀ (k:Nat),k<z2→(bif decide (k<i) then pk k else pk z0)=pk k∧(bif decide (k<i) then ps k else ps z0)=ps k∧(bif decide (k<i) then pa k else pa z0)=pa k∧(bif decide (k<i) then pb k else pb z0)=pb k∧(bif decide (k<i) then pc k else pc z0)=pc k∧(bif decide (k<i) then pd k else pd z0)=pd k)∧True)∧(decide (z3<(↑m:Int))=false→false=false∧(0:Nat)=(0:Nat)∧i=m∧m≤i∧z1∧True)) (Int.toNat z3)) (↑i:Int) (i+(1:Nat)) (∀ (k:Nat),k<m→pk k=pk k∧ps k=ps k∧pa k=pa k∧pb k=pb k∧pc k=pc k∧pd k=pd k)
theorem q20 (m:Nat) (pk ps pa pb pc pd:Nat→Int) (i:Nat):VL true [] [] YS.none Try.f20 0 [0,2,3,4,8] [] 0 (lp20 m pk ps pa pb pc pd) (i)=Rq20 m pk ps pa pb pc pd i:=by kernel_rfl
theorem peq20 (m:Nat) (pk ps pa pb pc pd:Nat→Int) (i:Nat):(lp20 m pk ps pa pb pc pd).pre (i)=(i≤m∧m≤(1000:Nat)):=by kernel_rfl
theorem bq20 (m:Nat) (pk ps pa pb pc pd:Nat→Int) (i:Nat) (hp:i≤m∧m≤(1000:Nat)):Rq20 m pk ps pa pb pc pd i:=by
 unfold Rq20
 dsimp -iota -proj -eta -zeta only
 obtain ⟨h1,h2⟩:=id hp
 have r1:R64 ((i:Int)+1):=by unfold R64; omega
 by_cases hl:i<m
 ·have hl':(i:Int)<m:=by omega
  have e3:∀ (q:Nat→Int) k,k<i+1→(bif decide (k<i) then q k else q i)=q k:=fun q k hk2=>by
   by_cases d1:k<i
   ·simp [d1]
   ·have:k=i:=by omega
    subst this; simp
  simp [hl,hl',r1]
  repeat' apply And.intro
  all_goals first | omega | exact fun k hk2=>by simpa using e3 _ k hk2 | exact fun k hk2=>⟨by simpa using e3 _ k hk2,by simpa using e3 _ k hk2,by simpa using e3 _ k hk2,by simpa using e3 _ k hk2,by simpa using e3 _ k hk2,by simpa using e3 _ k hk2⟩
 ·have e:i=m:=by omega
  subst e
  simp
theorem t20 (m:Nat) (pk ps pa pb pc pd:Nat→Int) {F:Fence} (hF:FOK F) (Y:YEnv PP YS.none):∀ Q A H nx,loopT false Try.f20.ntmps 0 (lp20 m pk ps pa pb pc pd) (fun _ _ _=>(0:Nat)) Q A H nx→WPS Y F Try.f20.ntmps 0 (.block 0 (blkAt 0 Try.f20)) Q A H nx :=
 loopW (E:=[]) (.nil) (O:=[]) (.nil) (ck:=true) (L:=[0,2,3,4,8]) (f:=Try.f20) (m:=0) (id:=0) (l:=(lp20 m pk ps pa pb pc pd)) (LI:=fun i=>[]) Y hF (by kernel_rfl) (fun _=>.nil) (by
  rintro i hp
  exact Hold.of (q20 m pk ps pa pb pc pd i) (bq20 m pk ps pa pb pc pd i ((peq20 m pk ps pa pb pc pd i).mp hp)))
def e20:List SV→Option (List Prop × SV)
 | [.sl 6 m g_1]=>some ([Row 6 m g_1,m≤1000],.sl 6 m (fun j=>[SI ((cI g_1 0) j),SI ((cI g_1 1) j),SI ((cI g_1 2) j),SI ((cI g_1 3) j),SI ((cI g_1 4) j),SI ((cI g_1 5) j)]))
 | _=>none
def Rr20 (m:Nat) (pk ps pa pb pc pd:Nat→Int):Prop:=(fun (z0:Nat)=>(z0≤m∧m≤(1000:Nat))∧((m=m∧∀ (k:Nat),k<m→pk k=pk k∧ps k=ps k∧pa k=pa k∧pb k=pb k∧pc k=pc k∧pd k=pd k)∧z0=z0∧(0:Int)=(↑z0:Int)∧z0=z0∧True)∧(false=false→z0+m≤m∧m=m∧∀ (k:Nat),k<m→pk (z0+k)=pk k∧ps (z0+k)=ps k∧pa (z0+k)=pa k∧pb (z0+k)=pb k∧pc (z0+k)=pc k∧pd (z0+k)=pd k)∧(false=true→False)) (0:Nat)
theorem r20 (m:Nat) (pk ps pa pb pc pd:Nat→Int):V true [] [] Try.f20 [0,2,3,4,8] [(0,loopT false Try.f20.ntmps 0 (lp20 m pk ps pa pb pc pd) (fun _ _ _=>(0:Nat)))] [.sl 6 m (fun k=>[SI (pk k),SI (ps k),SI (pa k),SI (pb k),SI (pc k),SI (pd k)])] (.sl 6 m (fun j=>[SI (pk j),SI (ps j),SI (pa j),SI (pb j),SI (pc j),SI (pd j)]))=Rr20 m pk ps pa pb pc pd:=by kernel_rfl
theorem br20 (m:Nat) (pk ps pa pb pc pd:Nat→Int) (hp:(m≤1000)∧AllP []):Rr20 m pk ps pa pb pc pd:=by
 unfold Rr20
 dsimp -iota -proj -eta -zeta only
 obtain ⟨h1,-⟩:=id hp
 simp [h1]
theorem s20:PureOK PP 20 e20:=by
 intro xs ps res h hp
 unfold e20 at h
 split at h
 ·rename_i m g_1
  cases h
  simp only [AllP.cons] at hp
  obtain ⟨Hg_1,hp⟩:=hp
  exact Spec.args (enterH (Hold.of (r20 m (cI g_1 0) (cI g_1 1) (cI g_1 2) (cI g_1 3) (cI g_1 4) (cI g_1 5)) (br20 m (cI g_1 0) (cI g_1 1) (cI g_1 2) (cI g_1 3) (cI g_1 4) (cI g_1 5) hp)) (.nil) (.nil) (k:=20) (by kernel_rfl) (by kernel_rfl) (fun Y=>.cons (by kernel_rfl) (t20 m (cI g_1 0) (cI g_1 1) (cI g_1 2) (cI g_1 3) (cI g_1 4) (cI g_1 5) FOK.wide Y) (.nil))) (.cons (.row Hg_1 fun _=>rfl) .nil)
 ·cases h
def e3:List SV→Option (List Prop × SV)
 | [.agg [.int .i64 w,.int .i64 ht,.int .i64 s,.int .i64 v0,.int .i64 v1,.int .i64 d0,.int .i64 d1,.int .i64 r],.sl 1 ns g_1,.sl 5 n g_2,.sl 6 m g_3,.int .i64 f]=>some ([Row 1 ns g_1,Row 5 n g_2,Row 6 m g_3],.bool true)
 | _=>none
def Rr3 (w ht s v0 v1 d0 d1 r:Int) (ns:Nat) (x:Nat→Int) (n:Nat) (sk sc sq sa sb:Nat→Int) (m:Nat) (pk ps pa pb pc pd:Nat→Int) (f:Int):Prop:=(fun (z7:Bool) (z2:Int) (z8:Nat) (z1:Nat→M.Sc) (z4 z5 z10:Prop)=>(fun (z3:Nat)=>(fun (z0:Bool) (z6:Prop)=>(fun (z9:Bool) (z11:Prop)=>z10∧z5∧z4∧(z7=true→true=true)∧(z7=false→z10∧z5∧z4∧ns≤z8∧n≤z8∧m≤z8∧z4∧m≤(1000:Nat)∧z10∧z5∧z4∧ns≤z8∧n≤z8∧m≤z8∧z6∧z6∧z3≤z8∧z3≤z8∧z11∧z11∧z11∧(z9=true→z9=true)∧(bif z9 then true else false)=true)) (bif z0 then decide (z2=z2) else false) (z0=true→z0=true)) (M.same z3 z3 (fun i=>M.Sc.mk (z1 i).k (z1 i).c (z1 i).q (z1 i).a (z1 i).b) fun i=>M.Sc.mk (z1 i).k (z1 i).c (z1 i).q (z1 i).a (z1 i).b) (∀ (k:Nat),(k<z3)→(z1 k).k=(z1 k).k∧(z1 k).c=(z1 k).c∧(z1 k).q=(z1 k).q∧(z1 k).a=(z1 k).a∧(z1 k).b=(z1 k).b)) (if z2=(0:Int) then M.Gd.leN (M.Gd.mk w ht s v0 v1 d0 d1 r) x (fun i=>M.Sc.mk (sk i) (sc i) (sq i) (sa i) (sb i)) m (fun i=>M.Pk.mk (pk i) (ps i) (pa i) (pb i) (pc i) (pd i)) f n else (0:Nat))) (!decide (ns≤(70:Nat)∧n≤(300:Nat)∧m≤(70:Nat)∧n*m≤(3000:Nat))) (M.Gd.ckE (M.Gd.mk w ht s v0 v1 d0 d1 r) ns x n (fun i=>M.Sc.mk (sk i) (sc i) (sq i) (sa i) (sb i)) m (fun i=>M.Pk.mk (pk i) (ps i) (pa i) (pb i) (pc i) (pd i)) f) (100000:Nat) (M.Gd.leR (M.Gd.mk w ht s v0 v1 d0 d1 r) x (fun i=>M.Sc.mk (sk i) (sc i) (sq i) (sa i) (sb i)) m (fun i=>M.Pk.mk (pk i) (ps i) (pa i) (pb i) (pc i) (pd i)) f n) (∀ (k:Nat),k<m→pk k=pk k∧ps k=ps k∧pa k=pa k∧pb k=pb k∧pc k=pc k∧pd k=pd k) (∀ (k:Nat),k<n→sk k=sk k∧sc k=sc k∧sq k=sq k∧sa k=sa k∧sb k=sb k) (∀ (k:Nat),k<ns→x k=x k)
theorem r3 (w ht s v0 v1 d0 d1 r:Int) (ns:Nat) (x:Nat→Int) (n:Nat) (sk sc sq sa sb:Nat→Int) (m:Nat) (pk ps pa pb pc pd:Nat→Int) (f:Int):V true [] [(16,pureE e16),(17,pureE e17),(18,pureE e18),(19,pureE e19),(20,pureE e20),(21,pureE e21)] Try.f3 [0,1,2,3,4,5,10,11,12,13,14,19] [] [.agg [SI w,SI ht,SI s,SI v0,SI v1,SI d0,SI d1,SI r],.sl 1 ns (fun k=>[SI (x k)]),.sl 5 n (fun k=>[SI (sk k),SI (sc k),SI (sq k),SI (sa k),SI (sb k)]),.sl 6 m (fun k=>[SI (pk k),SI (ps k),SI (pa k),SI (pb k),SI (pc k),SI (pd k)]),SI f] (.bool true)=Rr3 w ht s v0 v1 d0 d1 r ns x n sk sc sq sa sb m pk ps pa pb pc pd f:=by kernel_rfl
end Go.Proofs.Ytoncoofmijjgeaa.Sep
namespace Go.Proofs.Ytoncoofmijjgeaa.M
open Go
set_option linter.unusedVariables false
set_option linter.unusedSimpArgs false
def nuE (m : Nat) (l : Nat → Int) (i : Nat) : Int := if 0 ≤ l i ∧ l i ≤ (m : Int) - 1 then (if 0 < i ∧ l i ≤ l (i - 1) then 2 else 0) else 4
theorem nuE_ok {m n : Nat} {l : Nat → Int} (h : fe (nuE m l) n 0 = 0) : (∀ k, k < n → 0 ≤ l k ∧ l k < m) ∧ n ≤ m := by
 rw [fe_all] at h
 have key : ∀ k, k < n → 0 ≤ l k ∧ l k < m := fun k hk => by
  have := h k hk
  unfold nuE at this
  split at this
  ·omega
  ·omega
 refine ⟨key, ?_⟩
 have up : ∀ k, k < n → (k : Int) ≤ l k := by
  intro k
  induction k with
  | zero => intro hk; have := key 0 hk; omega
  | succ k ih =>
   intro hk
   have h1 := ih (by omega)
   have h2 := h (k + 1) hk
   unfold nuE at h2
   split at h2
   ·split at h2
    ·omega
    ·rename_i c
     simp only [Nat.add_sub_cancel] at c
     omega
   ·omega
 rcases Nat.eq_zero_or_pos n with e | e
 ·omega
 ·have h1 := up (n - 1) (by omega)
  have h2 := key (n - 1) (by omega)
  omega
namespace Gd
def veE (g : Gd) (ns : Nat) (x : Nat → Int) (s : Sc) (m : Nat) (P : Nat → Pk) (f : Int) (n : Nat) (l : Nat → Int) : Int := if g.ck1 ns x s m P f = 0 then
 (if fe (nuE m l) n 0 = 0 then (if g.stk x s P f n l = true then 0 else 22) else fe (nuE m l) n 0) else g.ck1 ns x s m P f
end Gd
end Go.Proofs.Ytoncoofmijjgeaa.M
namespace Go.Proofs.Ytoncoofmijjgeaa.Sep
open Go
set_option linter.unusedVariables false
set_option linter.unusedSimpArgs false
--#def SOME(i) XX
def lp78 (m:Nat) (pk ps pa pb pc pd:Nat→Int) (nl:Nat) (l:Nat→Int):LoopS where
 ι:=Nat
 β:=Unit
 pre i:=i≤nl∧nl≤1000∧(∀ k,k<nl→0≤l k∧l k<m)
 μ i:=nl-i
 next i _ _ _:=i+1
 out _:=()
 early _:=false
 SA i:=[(0,.sl 6 m (fun j=>[SI (pk j),SI (ps j),SI (pa j),SI (pb j),SI (pc j),SI (pd j)])),(1,.sl 1 nl (fun k=>[SI (l k)])),(5,.vec 0 6 0 i),(6,SI i)]
 SH i:=[(0,.row 6 i (fun k=>[SI (pk (l k).toNat),SI (ps (l k).toNat),SI (pa (l k).toNat),SI (pb (l k).toNat),SI (pc (l k).toNat),SI (pd (l k).toNat)]))]
 n0:=1
 NA _:=[(5,.vec 0 6 0 nl)]
 NH _:=[(0,.row 6 nl (fun k=>[SI (pk (l k).toNat),SI (ps (l k).toNat),SI (pa (l k).toNat),SI (pb (l k).toNat),SI (pc (l k).toNat),SI (pd (l k).toNat)]))]
 n1:=1
 RA _:=[]
 RH _:=[]
def Rq78 (m:Nat) (pk ps pa pb pc pd:Nat→Int) (nl:Nat) (l:Nat→Int) (i:Nat):Prop:=(fun (z2:Int) (z1:Nat)=>(fun (z0:Nat)=>(decide (z2<(↑nl:Int))=true→(0:Int)≤z2∧z2<(↑nl:Int)∧Int.toNat z2<nl∧(0:Int)≤l (Int.toNat z2)∧l (Int.toNat z2)<(↑m:Int)∧z0<m∧(0:Nat)+(1:Nat)≤(1:Nat)∧(∀ (k:Nat),k<(1:Nat)→true=true)∧i≤i∧z1*(48:Nat)≤(140737488355328:Nat)∧R64 (z2+(1:Int))∧(z1≤nl∧nl≤(1000:Nat)∧∀ (k:Nat),k<nl→(0:Int)≤l k∧l k<(↑m:Int))∧nl-z1<nl-i∧()=()∧(m=m∧∀ (k:Nat),k<m→pk k=pk k∧ps k=ps k∧pa k=pa k∧pb k=pb k∧pc k=pc k∧pd k=pd k)∧(nl=nl∧∀ (k:Nat),k<nl→l k=l k)∧(0:Nat)=(0:Nat)∧z1=z1∧z2+(1:Int)=(↑z1:Int)∧z1≤z1∧(∀ (k:Nat),k<z1→(bif decide (k<i) then pk (Int.toNat (l k)) else pk z0)=pk (Int.toNat (l k))∧(bif decide (k<i) then ps (Int.toNat (l k)) else ps z0)=ps (Int.toNat (l k))∧(bif decide (k<i) then pa (Int.toNat (l k)) else pa z0)=pa (Int.toNat (l k))∧(bif decide (k<i) then pb (Int.toNat (l k)) else pb z0)=pb (Int.toNat (l k))∧(bif decide (k<i) then pc (Int.toNat (l k)) else pc z0)=pc (Int.toNat (l k))∧(bif decide (k<i) then pd (Int.toNat (l k)) else pd z0)=pd (Int.toNat (l k)))∧True)∧(decide (z2<(↑nl:Int))=false→false=false∧(0:Nat)=(0:Nat)∧i=nl∧nl≤i∧(∀ (k:Nat),k<nl→pk (Int.toNat (l k))=pk (Int.toNat (l k))∧ps (Int.toNat (l k))=ps (Int.toNat (l k))∧pa (Int.toNat (l k))=pa (Int.toNat (l k))∧pb (Int.toNat (l k))=pb (Int.toNat (l k))∧pc (Int.toNat (l k))=pc (Int.toNat (l k))∧pd (Int.toNat (l k))=pd (Int.toNat (l k)))∧True)) (Int.toNat (l (Int.toNat z2)))) (↑i:Int) (i+(1:Nat))
theorem q78 (m:Nat) (pk ps pa pb pc pd:Nat→Int) (nl:Nat) (l:Nat→Int) (i:Nat):VL true [] [] YS.none Try.f78 0 [0,1,4,5,6,10] [] 0 (lp78 m pk ps pa pb pc pd nl l) (i)=Rq78 m pk ps pa pb pc pd nl l i:=by kernel_rfl
theorem peq78 (m:Nat) (pk ps pa pb pc pd:Nat→Int) (nl:Nat) (l:Nat→Int) (i:Nat):(lp78 m pk ps pa pb pc pd nl l).pre (i)=(i≤nl∧nl≤(1000:Nat)∧∀ (k:Nat),k<nl→(0:Int)≤l k∧l k<(↑m:Int)):=by kernel_rfl
theorem bq78 (m:Nat) (pk ps pa pb pc pd:Nat→Int) (nl:Nat) (l:Nat→Int) (i:Nat) (hp:i≤nl∧nl≤(1000:Nat)∧∀ (k:Nat),k<nl→(0:Int)≤l k∧l k<(↑m:Int)):Rq78 m pk ps pa pb pc pd nl l i:=by
 unfold Rq78
 dsimp -iota -proj -eta -zeta only
 obtain ⟨h1,h2,h3⟩:=id hp
 have r1:R64 ((i:Int)+1):=by unfold R64; omega
 by_cases hl:i<nl
 ·have hl':(i:Int)<nl:=by omega
  have hz:=h3 i hl
  have hz3:(l i).toNat<m:=by omega
  have e3:∀ (q:Nat→Int) k,k<i+1→(bif decide (k<i) then q (l k).toNat else q (l i).toNat)=q (l k).toNat:=fun q k hk2=>by
   by_cases d1:k<i
   ·simp [d1]
   ·have:k=i:=by omega
    subst this; simp
  simp only [Int.toNat_natCast]
  simp [hl,hl',r1,hz,hz3]
  repeat' apply And.intro
  all_goals first | omega | exact h3 | exact fun k hk2=>⟨by simpa using e3 _ k hk2,by simpa using e3 _ k hk2,by simpa using e3 _ k hk2,by simpa using e3 _ k hk2,by simpa using e3 _ k hk2,by simpa using e3 _ k hk2⟩
 ·have e:i=nl:=by omega
  subst e
  simp
theorem t78 (m:Nat) (pk ps pa pb pc pd:Nat→Int) (nl:Nat) (l:Nat→Int) {F:Fence} (hF:FOK F) (Y:YEnv PP YS.none):∀ Q A H nx,loopT false Try.f78.ntmps 0 (lp78 m pk ps pa pb pc pd nl l) (fun _ _ _=>(0:Nat)) Q A H nx→WPS Y F Try.f78.ntmps 0 (.block 0 (blkAt 0 Try.f78)) Q A H nx :=
 loopW (E:=[]) (.nil) (O:=[]) (.nil) (ck:=true) (L:=[0,1,4,5,6,10]) (f:=Try.f78) (m:=0) (id:=0) (l:=(lp78 m pk ps pa pb pc pd nl l)) (LI:=fun i=>[]) Y hF (by kernel_rfl) (fun _=>.nil) (by
  rintro i hp
  exact Hold.of (q78 m pk ps pa pb pc pd nl l i) (bq78 m pk ps pa pb pc pd nl l i ((peq78 m pk ps pa pb pc pd nl l i).mp hp)))
def e78:List SV→Option (List Prop × SV)
 | [.sl 6 m g_1,.sl 1 nl g_2]=>some ([Row 6 m g_1,Row 1 nl g_2,nl≤1000,(∀ k,k<nl→0≤(cI g_2 0) k∧(cI g_2 0) k<m)],.sl 6 nl (fun k=>[SI ((cI g_1 0) ((cI g_2 0) k).toNat),SI ((cI g_1 1) ((cI g_2 0) k).toNat),SI ((cI g_1 2) ((cI g_2 0) k).toNat),SI ((cI g_1 3) ((cI g_2 0) k).toNat),SI ((cI g_1 4) ((cI g_2 0) k).toNat),SI ((cI g_1 5) ((cI g_2 0) k).toNat)]))
 | _=>none
def Rr78 (m:Nat) (pk ps pa pb pc pd:Nat→Int) (nl:Nat) (l:Nat→Int):Prop:=(fun (z0:Nat)=>(z0≤nl∧nl≤(1000:Nat)∧∀ (k:Nat),k<nl→(0:Int)≤l k∧l k<(↑m:Int))∧((m=m∧∀ (k:Nat),k<m→pk k=pk k∧ps k=ps k∧pa k=pa k∧pb k=pb k∧pc k=pc k∧pd k=pd k)∧(nl=nl∧∀ (k:Nat),k<nl→l k=l k)∧z0=z0∧(0:Int)=(↑z0:Int)∧z0=z0∧True)∧(false=false→z0+nl≤nl∧nl=nl∧∀ (k:Nat),k<nl→pk (Int.toNat (l (z0+k)))=pk (Int.toNat (l k))∧ps (Int.toNat (l (z0+k)))=ps (Int.toNat (l k))∧pa (Int.toNat (l (z0+k)))=pa (Int.toNat (l k))∧pb (Int.toNat (l (z0+k)))=pb (Int.toNat (l k))∧pc (Int.toNat (l (z0+k)))=pc (Int.toNat (l k))∧pd (Int.toNat (l (z0+k)))=pd (Int.toNat (l k)))∧(false=true→False)) (0:Nat)
theorem r78 (m:Nat) (pk ps pa pb pc pd:Nat→Int) (nl:Nat) (l:Nat→Int):V true [] [] Try.f78 [0,1,4,5,6,10] [(0,loopT false Try.f78.ntmps 0 (lp78 m pk ps pa pb pc pd nl l) (fun _ _ _=>(0:Nat)))] [.sl 6 m (fun k=>[SI (pk k),SI (ps k),SI (pa k),SI (pb k),SI (pc k),SI (pd k)]),.sl 1 nl (fun k=>[SI (l k)])] (.sl 6 nl (fun k=>[SI (pk (l k).toNat),SI (ps (l k).toNat),SI (pa (l k).toNat),SI (pb (l k).toNat),SI (pc (l k).toNat),SI (pd (l k).toNat)]))=Rr78 m pk ps pa pb pc pd nl l:=by kernel_rfl
theorem br78 (m:Nat) (pk ps pa pb pc pd:Nat→Int) (nl:Nat) (l:Nat→Int) (hp:(nl≤1000)∧((∀ k,k<nl→0≤l k∧l k<m))∧AllP []):Rr78 m pk ps pa pb pc pd nl l:=by
 unfold Rr78
 dsimp -iota -proj -eta -zeta only
 obtain ⟨h1,h2,-⟩:=id hp
 simp [h1]
 try exact h2
theorem s78:PureOK PP 78 e78:=by
 intro xs ps res h hp
 unfold e78 at h
 split at h
 ·rename_i m g_1 nl g_2
  cases h
  simp only [AllP.cons] at hp
  obtain ⟨Hg_1,Hg_2,hp⟩:=hp
  exact Spec.args (enterH (Hold.of (r78 m (cI g_1 0) (cI g_1 1) (cI g_1 2) (cI g_1 3) (cI g_1 4) (cI g_1 5) nl (cI g_2 0)) (br78 m (cI g_1 0) (cI g_1 1) (cI g_1 2) (cI g_1 3) (cI g_1 4) (cI g_1 5) nl (cI g_2 0) hp)) (.nil) (.nil) (k:=78) (by kernel_rfl) (by kernel_rfl) (fun Y=>.cons (by kernel_rfl) (t78 m (cI g_1 0) (cI g_1 1) (cI g_1 2) (cI g_1 3) (cI g_1 4) (cI g_1 5) nl (cI g_2 0) FOK.wide Y) (.nil))) (.cons (.row Hg_1 fun _=>rfl) (.cons (.row Hg_2 fun _=>rfl) .nil))
 ·cases h
def lp78o (m:Nat) (pk ps pa pb pc pd:Nat→Int) (nl:Nat) (l:Nat→Int):LoopS where
 ι:=Nat
 β:=Unit
 pre i:=i≤nl∧nl≤1000∧(∀ k,k<nl→0≤l k∧l k<m)
 μ i:=nl-i
 next i _ _ _:=i+1
 out _:=()
 early _:=false
 SA i:=[(0,.sl 6 m (fun j=>[SI (pk j),SI (ps j),SI (pa j),SI (pb j),SI (pc j),SI (pd j)])),(1,.vec 0 1 0 nl),(5,.vec 1 6 0 i),(6,SI i)]
 SH i:=[(0,.row 1 nl (fun k=>[SI (l k)])),(1,.row 6 i (fun k=>[SI (pk (l k).toNat),SI (ps (l k).toNat),SI (pa (l k).toNat),SI (pb (l k).toNat),SI (pc (l k).toNat),SI (pd (l k).toNat)]))]
 n0:=2
 NA _:=[(1,.vec 0 1 0 nl),(5,.vec 1 6 0 nl)]
 NH _:=[(0,.row 1 nl (fun k=>[SI (l k)])),(1,.row 6 nl (fun k=>[SI (pk (l k).toNat),SI (ps (l k).toNat),SI (pa (l k).toNat),SI (pb (l k).toNat),SI (pc (l k).toNat),SI (pd (l k).toNat)]))]
 n1:=2
 RA _:=[]
 RH _:=[]
def Rq78o (m:Nat) (pk ps pa pb pc pd:Nat→Int) (nl:Nat) (l:Nat→Int) (i:Nat):Prop:=(fun (z4:Int) (z2:Nat) (z3 z5:Prop)=>(fun (z0:Nat)=>(fun (z1:Nat)=>(decide (z4<(↑nl:Int))=true→(0:Int)≤z4∧z4<(↑nl:Int)∧z0<nl∧(0:Int)≤l z0∧l z0<(↑m:Int)∧z1<m∧(0:Nat)+(1:Nat)≤(1:Nat)∧(∀ (k:Nat),k<(1:Nat)→true=true)∧i≤i∧z2*(48:Nat)≤(140737488355328:Nat)∧R64 (z4+(1:Int))∧(z2≤nl∧nl≤(1000:Nat)∧∀ (k:Nat),k<nl→(0:Int)≤l k∧l k<(↑m:Int))∧nl-z2<nl-i∧()=()∧(m=m∧∀ (k:Nat),k<m→pk k=pk k∧ps k=ps k∧pa k=pa k∧pb k=pb k∧pc k=pc k∧pd k=pd k)∧z3∧nl=nl∧z3∧z2=z2∧z4+(1:Int)=(↑z2:Int)∧nl≤nl∧z5∧z2≤z2∧(∀ (k:Nat),k<z2→(bif decide (k<i) then pk (Int.toNat (l k)) else pk z1)=pk (Int.toNat (l k))∧(bif decide (k<i) then ps (Int.toNat (l k)) else ps z1)=ps (Int.toNat (l k))∧(bif decide (k<i) then pa (Int.toNat (l k)) else pa z1)=pa (Int.toNat (l k))∧(bif decide (k<i) then pb (Int.toNat (l k)) else pb z1)=pb (Int.toNat (l k))∧(bif decide (k<i) then pc (Int.toNat (l k)) else pc z1)=pc (Int.toNat (l k))∧(bif decide (k<i) then pd (Int.toNat (l k)) else pd z1)=pd (Int.toNat (l k)))∧True)∧(decide (z4<(↑nl:Int))=false→false=false∧z3∧nl=nl∧z3∧i=nl∧nl≤nl∧z5∧nl≤i∧(∀ (k:Nat),k<nl→pk (Int.toNat (l k))=pk (Int.toNat (l k))∧ps (Int.toNat (l k))=ps (Int.toNat (l k))∧pa (Int.toNat (l k))=pa (Int.toNat (l k))∧pb (Int.toNat (l k))=pb (Int.toNat (l k))∧pc (Int.toNat (l k))=pc (Int.toNat (l k))∧pd (Int.toNat (l k))=pd (Int.toNat (l k)))∧True)) (Int.toNat (l z0))) ((0:Nat)+Int.toNat z4)) (↑i:Int) (i+(1:Nat)) ((0:Nat)=(0:Nat)) (∀ (k:Nat),k<nl→l k=l k)
theorem q78o (m:Nat) (pk ps pa pb pc pd:Nat→Int) (nl:Nat) (l:Nat→Int) (i:Nat):VL true [] [] YS.none Try.f78 1 [0,1,4,5,6,10] [] 0 (lp78o m pk ps pa pb pc pd nl l) (i)=Rq78o m pk ps pa pb pc pd nl l i:=by kernel_rfl
theorem peq78o (m:Nat) (pk ps pa pb pc pd:Nat→Int) (nl:Nat) (l:Nat→Int) (i:Nat):(lp78o m pk ps pa pb pc pd nl l).pre (i)=(i≤nl∧nl≤(1000:Nat)∧∀ (k:Nat),k<nl→(0:Int)≤l k∧l k<(↑m:Int)):=by kernel_rfl
theorem bq78o (m:Nat) (pk ps pa pb pc pd:Nat→Int) (nl:Nat) (l:Nat→Int) (i:Nat) (hp:i≤nl∧nl≤(1000:Nat)∧∀ (k:Nat),k<nl→(0:Int)≤l k∧l k<(↑m:Int)):Rq78o m pk ps pa pb pc pd nl l i:=by
 unfold Rq78o
 dsimp -iota -proj -eta -zeta only
 obtain ⟨h1,h2,h3⟩:=id hp
 have r1:R64 ((i:Int)+1):=by unfold R64; omega
 by_cases hl:i<nl
 ·have hl':(i:Int)<nl:=by omega
  have hz:=h3 i hl
  have hz3:(l i).toNat<m:=by omega
  have e3:∀ (q:Nat→Int) k,k<i+1→(bif decide (k<i) then q (l k).toNat else q (l i).toNat)=q (l k).toNat:=fun q k hk2=>by
   by_cases d1:k<i
   ·simp [d1]
   ·have:k=i:=by omega
    subst this; simp
  simp only [Int.toNat_natCast]
  simp [hl,hl',r1,hz,hz3]
  repeat' apply And.intro
  all_goals first | omega | exact h3 | exact fun k hk2=>⟨by simpa using e3 _ k hk2,by simpa using e3 _ k hk2,by simpa using e3 _ k hk2,by simpa using e3 _ k hk2,by simpa using e3 _ k hk2,by simpa using e3 _ k hk2⟩
 ·have e:i=nl:=by omega
  subst e
  simp
theorem t78o (m:Nat) (pk ps pa pb pc pd:Nat→Int) (nl:Nat) (l:Nat→Int) {F:Fence} (hF:FOK F) (Y:YEnv PP YS.none):∀ Q A H nx,loopT false Try.f78.ntmps 1 (lp78o m pk ps pa pb pc pd nl l) (fun _ _ _=>(0:Nat)) Q A H nx→WPS Y F Try.f78.ntmps 1 (.block 0 (blkAt 0 Try.f78)) Q A H nx :=
 loopW (E:=[]) (.nil) (O:=[]) (.nil) (ck:=true) (L:=[0,1,4,5,6,10]) (f:=Try.f78) (m:=1) (id:=0) (l:=(lp78o m pk ps pa pb pc pd nl l)) (LI:=fun i=>[]) Y hF (by kernel_rfl) (fun _=>.nil) (by
  rintro i hp
  exact Hold.of (q78o m pk ps pa pb pc pd nl l i) (bq78o m pk ps pa pb pc pd nl l i ((peq78o m pk ps pa pb pc pd nl l i).mp hp)))
def e78o:EntB
 | [.sl 6 m g_1,.vec 0 1 0 nl],[.row 1 nm g_2]=>some ([Row 6 m g_1,Row 1 nm g_2,nl≤1000,(∀ k,k<nl→0≤(cI g_2 0) k∧(cI g_2 0) k<m),nl=nm],.sl 6 nl (fun k=>[SI ((cI g_1 0) ((cI g_2 0) k).toNat),SI ((cI g_1 1) ((cI g_2 0) k).toNat),SI ((cI g_1 2) ((cI g_2 0) k).toNat),SI ((cI g_1 3) ((cI g_2 0) k).toNat),SI ((cI g_1 4) ((cI g_2 0) k).toNat),SI ((cI g_1 5) ((cI g_2 0) k).toNat)]),[.row 1 nm (fun k=>[SI ((cI g_2 0) k)])])
 | _,_=>none
def Rr78o (m:Nat) (pk ps pa pb pc pd:Nat→Int) (nm:Nat) (nl:Nat) (l:Nat→Int):Prop:=(fun (z0:Nat)=>(z0≤nl∧nl≤(1000:Nat)∧∀ (k:Nat),k<nl→(0:Int)≤l k∧l k<(↑m:Int))∧((m=m∧∀ (k:Nat),k<m→pk k=pk k∧ps k=ps k∧pa k=pa k∧pb k=pb k∧pc k=pc k∧pd k=pd k)∧z0=z0∧nl=nl∧z0=z0∧(0:Int)=(↑z0:Int)∧nl≤nm∧(∀ (k:Nat),k<nl→l k=l k)∧z0=z0∧True)∧(false=false→z0+nl≤nl∧(nm≤nl∧∀ (k:Nat),k<nm→l k=l k)∧nl=nl∧∀ (k:Nat),k<nl→pk (Int.toNat (l (z0+k)))=pk (Int.toNat (l k))∧ps (Int.toNat (l (z0+k)))=ps (Int.toNat (l k))∧pa (Int.toNat (l (z0+k)))=pa (Int.toNat (l k))∧pb (Int.toNat (l (z0+k)))=pb (Int.toNat (l k))∧pc (Int.toNat (l (z0+k)))=pc (Int.toNat (l k))∧pd (Int.toNat (l (z0+k)))=pd (Int.toNat (l k)))∧(false=true→False)) (0:Nat)
theorem r78o (m:Nat) (pk ps pa pb pc pd:Nat→Int) (nm:Nat) (nl:Nat) (l:Nat→Int):VB true [] [] Try.f78 [0,1,4,5,6,10] [(0,loopT false Try.f78.ntmps 1 (lp78o m pk ps pa pb pc pd nl l) (fun _ _ _=>(0:Nat)))] [.sl 6 m (fun k=>[SI (pk k),SI (ps k),SI (pa k),SI (pb k),SI (pc k),SI (pd k)]),.vec 0 1 0 nl] [.row 1 nm (fun k=>[SI (l k)])] (.sl 6 nl (fun k=>[SI (pk (l k).toNat),SI (ps (l k).toNat),SI (pa (l k).toNat),SI (pb (l k).toNat),SI (pc (l k).toNat),SI (pd (l k).toNat)])) [.row 1 nm (fun k=>[SI (l k)])]=Rr78o m pk ps pa pb pc pd nm nl l:=by kernel_rfl
theorem br78o (m:Nat) (pk ps pa pb pc pd:Nat→Int) (nm:Nat) (nl:Nat) (l:Nat→Int) (hp:(nl≤1000)∧((∀ k,k<nl→0≤l k∧l k<m))∧(nl=nm)∧AllP []):Rr78o m pk ps pa pb pc pd nm nl l:=by
 unfold Rr78o
 dsimp -iota -proj -eta -zeta only
 obtain ⟨h1,h2,rfl,-⟩:=id hp
 simp [h1]
 try exact h2
theorem s78o:SpecOK PP 78 e78o:=by
 intro xs Hs ps res Hs1 h hp
 unfold e78o at h
 split at h
 ·rename_i m g_1 nl nm g_2
  cases h
  simp only [AllP.cons] at hp
  obtain ⟨Hg_1,Hg_2,hp⟩:=hp
  exact Spec.args (Spec.blocks (enterBH (Hold.of (r78o m (cI g_1 0) (cI g_1 1) (cI g_1 2) (cI g_1 3) (cI g_1 4) (cI g_1 5) nm nl (cI g_2 0)) (br78o m (cI g_1 0) (cI g_1 1) (cI g_1 2) (cI g_1 3) (cI g_1 4) (cI g_1 5) nm nl (cI g_2 0) hp)) (.nil) (.nil) (k:=78) (by kernel_rfl) (by kernel_rfl) rfl (fun Y=>.cons (by kernel_rfl) (t78o m (cI g_1 0) (cI g_1 1) (cI g_1 2) (cI g_1 3) (cI g_1 4) (cI g_1 5) nl (cI g_2 0) FOK.wide Y) (.nil))) (.row Hg_2 (fun _=>rfl) .nil)) (.cons (.row Hg_1 fun _=>rfl) (.cons (.refl _) .nil))
 ·cases h
def lp33 (w ht s v0 v1 d0 d1 r:Int) (ns:Nat) (x:Nat→Int) (f:Int) (zk zc zq za zb:Int) (m:Nat) (pk ps pa pb pc pd:Nat→Int) (nl:Nat) (l:Nat→Int):LoopS where
 ι:=Nat
 β:=Int
 pre i:=i≤nl∧nl≤100000∧m≤64
 μ i:=nl-i
 next i _ _ _:=i+1
 out i:=M.fe (M.nuE m l) (nl-i) i
 early q:=decide (q≠0)
 SA i:=[(3,.sl 6 m (fun j=>[SI (pk j),SI (ps j),SI (pa j),SI (pb j),SI (pc j),SI (pd j)])),(5,.sl 1 nl (fun k=>[SI (l k)])),(6,.ptr 0 0),(8,.ptr 1 0),(13,.ptr 2 0),(29,.sl 1 nl (fun k=>[SI (l k)])),(30,SI nl),(31,SI i)]
 SH _:=[(0,.cells [SI w,SI ht,SI s,SI v0,SI v1,SI d0,SI d1,SI r]),(1,.cells [SI zk,SI zc,SI zq,SI za,SI zb]),(2,.cells [SI w,SI ht,SI s,SI v0,SI v1,SI d0,SI d1,SI r,.sl 1 ns (fun k=>[SI (x k)]),SI f])]
 n0:=3
 NA _:=[(3,.sl 6 m (fun j=>[SI (pk j),SI (ps j),SI (pa j),SI (pb j),SI (pc j),SI (pd j)])),(5,.sl 1 nl (fun k=>[SI (l k)])),(6,.ptr 0 0),(8,.ptr 1 0),(13,.ptr 2 0)]
 NH _:=[(0,.cells [SI w,SI ht,SI s,SI v0,SI v1,SI d0,SI d1,SI r]),(1,.cells [SI zk,SI zc,SI zq,SI za,SI zb]),(2,.cells [SI w,SI ht,SI s,SI v0,SI v1,SI d0,SI d1,SI r,.sl 1 ns (fun k=>[SI (x k)]),SI f])]
 n1:=3
 RA q:=[(12,SI q)]
 RH _:=[]
def Rq33 (w ht s v0 v1 d0 d1 r:Int) (ns:Nat) (x:Nat→Int) (f:Int) (zk zc zq za zb:Int) (m:Nat) (pk ps pa pb pc pd:Nat→Int) (nl:Nat) (l:Nat→Int) (i:Nat):Prop:=(fun (z2 z4 z9:Int) (z10:Nat) (z1 z3 z6:Prop)=>(fun (z7 z11:Bool) (z12:Int) (z0:Prop)=>(fun (z5:Bool) (z8:Prop)=>(decide (z2<z9)=true→(0:Int)≤z2∧z2<z9∧Int.toNat z2<nl∧R64 ((↑m:Int)-(1:Int))∧(z7=true→z11=true∧(4:Int)=z4∧True)∧(z7=false→z8∧(z0→R64 z12)∧z8∧z8∧(z0→(0:Int)≤z12)∧(z0→z12<z9)∧z8∧(z0→Int.toNat z12<nl)∧z8∧z8∧z8∧(z5=true→z11=true∧(2:Int)=z4∧True)∧(z5=false→R64 (z2+(1:Int))∧(z10≤nl∧nl≤(100000:Nat)∧m≤(64:Nat))∧nl-z10<nl-i∧M.fe (M.nuE m l) (nl-z10) z10=z4∧z3∧z6∧z6∧z9=z9∧z2+(1:Int)=(↑z10:Int)∧z1)))∧(decide (z2<z9)=false→z11=false∧z3∧z6∧z1)) (bif decide ((0:Int)<z2) then decide (l (Int.toNat z2)≤l (Int.toNat z12)) else false) (z0→z0)) (!decide ((0:Int)≤l (Int.toNat z2)∧l (Int.toNat z2)≤(↑m:Int)-(1:Int))) (decide (z4≠(0:Int))) (z2-(1:Int)) (decide ((0:Int)<z2)=true)) (↑i:Int) (M.fe (M.nuE m l) (nl-i) i) (↑nl:Int) (i+(1:Nat)) (w=w∧ht=ht∧s=s∧v0=v0∧v1=v1∧d0=d0∧d1=d1∧r=r∧zk=zk∧zc=zc∧zq=zq∧za=za∧zb=zb∧w=w∧ht=ht∧s=s∧v0=v0∧v1=v1∧d0=d0∧d1=d1∧r=r∧(ns=ns∧∀ (k:Nat),k<ns→x k=x k)∧f=f∧True) (m=m∧∀ (k:Nat),k<m→pk k=pk k∧ps k=ps k∧pa k=pa k∧pb k=pb k∧pc k=pc k∧pd k=pd k) (nl=nl∧∀ (k:Nat),k<nl→l k=l k)
theorem q33 (w ht s v0 v1 d0 d1 r:Int) (ns:Nat) (x:Nat→Int) (f:Int) (zk zc zq za zb:Int) (m:Nat) (pk ps pa pb pc pd:Nat→Int) (nl:Nat) (l:Nat→Int) (i:Nat):VL true [] [(67,pureE e67)] YS.none Try.f33 0 [0,1,2,3,4,5,6,8,12,13,14,15,16,27,29,30,31,32,36,43,61] [] 0 (lp33 w ht s v0 v1 d0 d1 r ns x f zk zc zq za zb m pk ps pa pb pc pd nl l) (i)=Rq33 w ht s v0 v1 d0 d1 r ns x f zk zc zq za zb m pk ps pa pb pc pd nl l i:=by kernel_rfl
theorem peq33 (w ht s v0 v1 d0 d1 r:Int) (ns:Nat) (x:Nat→Int) (f:Int) (zk zc zq za zb:Int) (m:Nat) (pk ps pa pb pc pd:Nat→Int) (nl:Nat) (l:Nat→Int) (i:Nat):(lp33 w ht s v0 v1 d0 d1 r ns x f zk zc zq za zb m pk ps pa pb pc pd nl l).pre (i)=(i≤nl∧nl≤(100000:Nat)∧m≤(64:Nat)):=by kernel_rfl
theorem bq33 (w ht s v0 v1 d0 d1 r:Int) (ns:Nat) (x:Nat→Int) (f:Int) (zk zc zq za zb:Int) (m:Nat) (pk ps pa pb pc pd:Nat→Int) (nl:Nat) (l:Nat→Int) (i:Nat) (hp:i≤nl∧nl≤(100000:Nat)∧m≤(64:Nat)):Rq33 w ht s v0 v1 d0 d1 r ns x f zk zc zq za zb m pk ps pa pb pc pd nl l i:=by
 unfold Rq33
 dsimp -iota -proj -eta -zeta only
 obtain ⟨h1,h2,hm⟩:=id hp
 have r1:R64 ((i:Int)+1):=by unfold R64; omega
 have r2:R64 ((i:Int)-1):=by unfold R64; omega
 have r3:R64 ((m:Int)-1):=by unfold R64; omega
 have t1:((i:Int)-1).toNat=i-1:=by omega
 have f1:=@M.fe_step (M.nuE m l) nl i
 have f2:=@M.fe_stop (M.nuE m l) nl i
 have f3:=@M.fe_end (M.nuE m l) nl i
 simp only [Int.toNat_natCast,r1,r2,r3,t1]
 generalize M.fe (M.nuE m l) (nl-i) i=F at *
 generalize M.fe (M.nuE m l) (nl-(i+1)) (i+1)=F' at *
 unfold M.nuE at f1 f2
 by_cases hl:i<nl
 ·have f1:=f1 hl
  have f2:=f2 hl
  clear f3
  have t2:i-1<nl:=by omega
  by_cases c1:0≤l i∧l i≤(m:Int)-1
  ·by_cases c2:0<i
   ·have c2':(0:Int)<i:=by omega
    by_cases c3:l i≤l (i-1)
    ·simp [c1,c2,c3] at f2
     simp [hl,c1,c2,c2',c3,f2,t2]
     try omega
    ·simp [c1,c2,c3] at f1
     subst f1
     simp [hl,c1,c2,c2',c3,t2]
     try omega
   ·have c2':¬ (0:Int)<i:=by omega
    simp [c1,c2] at f1
    subst f1
    simp [hl,c1,c2,c2',t2]
    try omega
  ·simp [c1] at f2
   simp [hl,c1,f2]
   try omega
 ·have f3:=f3 (by omega)
  subst f3
  simp [hl]
theorem t33 (w ht s v0 v1 d0 d1 r:Int) (ns:Nat) (x:Nat→Int) (f:Int) (zk zc zq za zb:Int) (m:Nat) (pk ps pa pb pc pd:Nat→Int) (nl:Nat) (l:Nat→Int) {F:Fence} (hF:FOK F) (Y:YEnv PP YS.none):∀ Q A H nx,loopT false Try.f33.ntmps 0 (lp33 w ht s v0 v1 d0 d1 r ns x f zk zc zq za zb m pk ps pa pb pc pd nl l) (fun _ _ _=>(0:Nat)) Q A H nx→WPS Y F Try.f33.ntmps 0 (.block 0 (blkAt 0 Try.f33)) Q A H nx :=
 loopW (E:=[]) (.nil) (O:=[(67,pureE e67)]) (.cons (pureE_ok s67) (.nil)) (ck:=true) (L:=[0,1,2,3,4,5,6,8,12,13,14,15,16,27,29,30,31,32,36,43,61]) (f:=Try.f33) (m:=0) (id:=0) (l:=(lp33 w ht s v0 v1 d0 d1 r ns x f zk zc zq za zb m pk ps pa pb pc pd nl l)) (LI:=fun i=>[]) Y hF (by kernel_rfl) (fun _=>.nil) (by
  rintro i hp
  exact Hold.of (q33 w ht s v0 v1 d0 d1 r ns x f zk zc zq za zb m pk ps pa pb pc pd nl l i) (bq33 w ht s v0 v1 d0 d1 r ns x f zk zc zq za zb m pk ps pa pb pc pd nl l i ((peq33 w ht s v0 v1 d0 d1 r ns x f zk zc zq za zb m pk ps pa pb pc pd nl l i).mp hp)))
def lp34 (w ht s v0 v1 d0 d1 r:Int) (ns:Nat) (x:Nat→Int) (f:Int) (zk zc zq za zb:Int) (m:Nat) (pk ps pa pb pc pd:Nat→Int) (nl:Nat) (l:Nat→Int):LoopS where
 ι:=Nat
 β:=Int
 pre i:=i≤nl∧nl≤100000∧m≤64
 μ i:=nl-i
 next i _ _ _:=i+1
 out i:=M.fe (M.nuE m l) (nl-i) i
 early q:=decide (q≠0)
 SA i:=[(1,.sl 1 ns (fun k=>[SI (x k)])),(3,.sl 6 m (fun j=>[SI (pk j),SI (ps j),SI (pa j),SI (pb j),SI (pc j),SI (pd j)])),(4,SI f),(5,.sl 1 nl (fun k=>[SI (l k)])),(6,.ptr 0 0),(8,.ptr 1 0),(14,SI i)]
 SH _:=[(0,.cells [SI w,SI ht,SI s,SI v0,SI v1,SI d0,SI d1,SI r]),(1,.cells [SI zk,SI zc,SI zq,SI za,SI zb])]
 n0:=2
 NA _:=[(1,.sl 1 ns (fun k=>[SI (x k)])),(3,.sl 6 m (fun j=>[SI (pk j),SI (ps j),SI (pa j),SI (pb j),SI (pc j),SI (pd j)])),(4,SI f),(5,.sl 1 nl (fun k=>[SI (l k)])),(6,.ptr 0 0),(8,.ptr 1 0)]
 NH _:=[(0,.cells [SI w,SI ht,SI s,SI v0,SI v1,SI d0,SI d1,SI r]),(1,.cells [SI zk,SI zc,SI zq,SI za,SI zb])]
 n1:=2
 RA q:=[(12,SI q)]
 RH _:=[]
def Rq34 (w ht s v0 v1 d0 d1 r:Int) (ns:Nat) (x:Nat→Int) (f:Int) (zk zc zq za zb:Int) (m:Nat) (pk ps pa pb pc pd:Nat→Int) (nl:Nat) (l:Nat→Int) (i:Nat):Prop:=(fun (z1 z4 z12:Int) (z8:Nat) (z2 z3 z9 z10:Prop)=>(fun (z6 z11:Bool) (z13:Int) (z0:Prop)=>(fun (z5:Bool) (z7:Prop)=>(decide (z1<z12)=true→(0:Int)≤z1∧z1<z12∧Int.toNat z1<nl∧R64 ((↑m:Int)-(1:Int))∧(z6=true→z11=true∧(4:Int)=z4∧True)∧(z6=false→z7∧z7∧(z0→(0:Int)≤z1)∧(z0→z1<z12)∧z7∧(z0→Int.toNat z1<nl)∧z7∧(z0→R64 z13)∧z7∧z7∧(z0→(0:Int)≤z13)∧(z0→z13<z12)∧z7∧(z0→Int.toNat z13<nl)∧z7∧z7∧z7∧(z5=true→z11=true∧(2:Int)=z4∧True)∧(z5=false→R64 (z1+(1:Int))∧(z8≤nl∧nl≤(100000:Nat)∧m≤(64:Nat))∧nl-z8<nl-i∧M.fe (M.nuE m l) (nl-z8) z8=z4∧z9∧z3∧f=f∧z10∧z1+(1:Int)=(↑z8:Int)∧z2)))∧(decide (z1<z12)=false→z11=false∧z9∧z3∧f=f∧z10∧z2)) (bif decide ((0:Int)<z1) then decide (l (Int.toNat z1)≤l (Int.toNat z13)) else false) (z0→z0)) (!decide ((0:Int)≤l (Int.toNat z1)∧l (Int.toNat z1)≤(↑m:Int)-(1:Int))) (decide (z4≠(0:Int))) (z1-(1:Int)) (decide ((0:Int)<z1)=true)) (↑i:Int) (M.fe (M.nuE m l) (nl-i) i) (↑nl:Int) (i+(1:Nat)) (w=w∧ht=ht∧s=s∧v0=v0∧v1=v1∧d0=d0∧d1=d1∧r=r∧zk=zk∧zc=zc∧zq=zq∧za=za∧zb=zb∧True) (m=m∧∀ (k:Nat),k<m→pk k=pk k∧ps k=ps k∧pa k=pa k∧pb k=pb k∧pc k=pc k∧pd k=pd k) (ns=ns∧∀ (k:Nat),k<ns→x k=x k) (nl=nl∧∀ (k:Nat),k<nl→l k=l k)
theorem q34 (w ht s v0 v1 d0 d1 r:Int) (ns:Nat) (x:Nat→Int) (f:Int) (zk zc zq za zb:Int) (m:Nat) (pk ps pa pb pc pd:Nat→Int) (nl:Nat) (l:Nat→Int) (i:Nat):VL true [] [(69,pureE e69)] YS.none Try.f34 0 [0,1,2,3,4,5,6,8,12,13,14,16,25,30,41,55,72] [] 0 (lp34 w ht s v0 v1 d0 d1 r ns x f zk zc zq za zb m pk ps pa pb pc pd nl l) (i)=Rq34 w ht s v0 v1 d0 d1 r ns x f zk zc zq za zb m pk ps pa pb pc pd nl l i:=by kernel_rfl
theorem peq34 (w ht s v0 v1 d0 d1 r:Int) (ns:Nat) (x:Nat→Int) (f:Int) (zk zc zq za zb:Int) (m:Nat) (pk ps pa pb pc pd:Nat→Int) (nl:Nat) (l:Nat→Int) (i:Nat):(lp34 w ht s v0 v1 d0 d1 r ns x f zk zc zq za zb m pk ps pa pb pc pd nl l).pre (i)=(i≤nl∧nl≤(100000:Nat)∧m≤(64:Nat)):=by kernel_rfl
theorem bq34 (w ht s v0 v1 d0 d1 r:Int) (ns:Nat) (x:Nat→Int) (f:Int) (zk zc zq za zb:Int) (m:Nat) (pk ps pa pb pc pd:Nat→Int) (nl:Nat) (l:Nat→Int) (i:Nat) (hp:i≤nl∧nl≤(100000:Nat)∧m≤(64:Nat)):Rq34 w ht s v0 v1 d0 d1 r ns x f zk zc zq za zb m pk ps pa pb pc pd nl l i:=by
 unfold Rq34
 dsimp -iota -proj -eta -zeta only
 obtain ⟨h1,h2,hm⟩:=id hp
 have r1:R64 ((i:Int)+1):=by unfold R64; omega
 have r2:R64 ((i:Int)-1):=by unfold R64; omega
 have r3:R64 ((m:Int)-1):=by unfold R64; omega
 have t1:((i:Int)-1).toNat=i-1:=by omega
 have f1:=@M.fe_step (M.nuE m l) nl i
 have f2:=@M.fe_stop (M.nuE m l) nl i
 have f3:=@M.fe_end (M.nuE m l) nl i
 simp only [Int.toNat_natCast,r1,r2,r3,t1]
 generalize M.fe (M.nuE m l) (nl-i) i=F at *
 generalize M.fe (M.nuE m l) (nl-(i+1)) (i+1)=F' at *
 unfold M.nuE at f1 f2
 by_cases hl:i<nl
 ·have f1:=f1 hl
  have f2:=f2 hl
  clear f3
  have t2:i-1<nl:=by omega
  by_cases c1:0≤l i∧l i≤(m:Int)-1
  ·by_cases c2:0<i
   ·have c2':(0:Int)<i:=by omega
    by_cases c3:l i≤l (i-1)
    ·simp [c1,c2,c3] at f2
     simp [hl,c1,c2,c2',c3,f2,t2]
     try omega
    ·simp [c1,c2,c3] at f1
     subst f1
     simp [hl,c1,c2,c2',c3,t2]
     try omega
   ·have c2':¬ (0:Int)<i:=by omega
    simp [c1,c2] at f1
    subst f1
    simp [hl,c1,c2,c2',t2]
    try omega
  ·simp [c1] at f2
   simp [hl,c1,f2]
   try omega
 ·have f3:=f3 (by omega)
  subst f3
  simp [hl]
theorem t34 (w ht s v0 v1 d0 d1 r:Int) (ns:Nat) (x:Nat→Int) (f:Int) (zk zc zq za zb:Int) (m:Nat) (pk ps pa pb pc pd:Nat→Int) (nl:Nat) (l:Nat→Int) {F:Fence} (hF:FOK F) (Y:YEnv PP YS.none):∀ Q A H nx,loopT false Try.f34.ntmps 0 (lp34 w ht s v0 v1 d0 d1 r ns x f zk zc zq za zb m pk ps pa pb pc pd nl l) (fun _ _ _=>(0:Nat)) Q A H nx→WPS Y F Try.f34.ntmps 0 (.block 0 (blkAt 0 Try.f34)) Q A H nx :=
 loopW (E:=[]) (.nil) (O:=[(69,pureE e69)]) (.cons (pureE_ok s69) (.nil)) (ck:=true) (L:=[0,1,2,3,4,5,6,8,12,13,14,16,25,30,41,55,72]) (f:=Try.f34) (m:=0) (id:=0) (l:=(lp34 w ht s v0 v1 d0 d1 r ns x f zk zc zq za zb m pk ps pa pb pc pd nl l)) (LI:=fun i=>[]) Y hF (by kernel_rfl) (fun _=>.nil) (by
  rintro i hp
  exact Hold.of (q34 w ht s v0 v1 d0 d1 r ns x f zk zc zq za zb m pk ps pa pb pc pd nl l i) (bq34 w ht s v0 v1 d0 d1 r ns x f zk zc zq za zb m pk ps pa pb pc pd nl l i ((peq34 w ht s v0 v1 d0 d1 r ns x f zk zc zq za zb m pk ps pa pb pc pd nl l i).mp hp)))
def e33:List SV→Option (List Prop × SV)
 | [.agg [.int .i64 w,.int .i64 ht,.int .i64 s,.int .i64 v0,.int .i64 v1,.int .i64 d0,.int .i64 d1,.int .i64 r],.sl 1 ns g_1,.agg [.int .i64 zk,.int .i64 zc,.int .i64 zq,.int .i64 za,.int .i64 zb],.sl 6 m g_2,.int .i64 f,.sl 1 nl g_3]=>some ([Row 1 ns g_1,Row 6 m g_2,Row 1 nl g_3,ns≤100000,m≤100000,nl≤100000],SI (M.Gd.veE (M.Gd.mk w ht s v0 v1 d0 d1 r) ns (cI g_1 0) (M.Sc.mk zk zc zq za zb) m (fun i=>M.Pk.mk ((cI g_2 0) i) ((cI g_2 1) i) ((cI g_2 2) i) ((cI g_2 3) i) ((cI g_2 4) i) ((cI g_2 5) i)) f nl (cI g_3 0)))
 | _=>none
def Rr33 (w ht s v0 v1 d0 d1 r:Int) (ns:Nat) (x:Nat→Int) (f:Int) (zk zc zq za zb:Int) (m:Nat) (pk ps pa pb pc pd:Nat→Int) (nl:Nat) (l:Nat→Int):Prop:=(fun (z6 z9:Int) (z1:M.Gd) (z3:M.Sc) (z10:Nat) (z0:Nat→M.Pk) (z2 z7 z8:Prop)=>(fun (z4 z5:Int)=>(0:Nat)+(1:Nat)≤(1:Nat)∧z7∧(∀ (k:Nat),k<(1:Nat)→zk=zk∧zc=zc∧zq=zq∧za=za∧zb=zb)∧z2∧ns≤z10∧(1:Nat)≤z10∧m≤z10∧((!decide (z4=z9))=true→z4=z5)∧((!decide (z4=z9))=false→((0:Nat)≤nl∧nl≤z10∧m≤(64:Nat))∧((m=m∧z2)∧(nl=nl∧z8)∧(nl=nl∧z8)∧(↑nl:Int)=(↑nl:Int)∧z9=(↑(0:Nat):Int)∧w=w∧ht=ht∧s=s∧v0=v0∧v1=v1∧d0=d0∧d1=d1∧r=r∧zk=zk∧zc=zc∧zq=zq∧za=za∧zb=zb∧w=w∧ht=ht∧s=s∧v0=v0∧v1=v1∧d0=d0∧d1=d1∧r=r∧(ns=ns∧z7)∧f=f∧True)∧(decide (z6≠z9)=false→z7∧z2∧z8∧M.Gd.ok z1∧M.Gd.all z1 ns x∧ns≤(64:Nat)∧M.Gd.Sok z1 z3∧(∀ (i:Nat),i<m→M.Pk.Vd ns (M.Pk.mk (pk i) (ps i) (pa i) (pb i) (pc i) (pd i)))∧m≤(64:Nat)∧z9≤f∧f≤(8:Int)∧nl≤(64:Nat)∧(∀ (k:Nat),k<nl→z9≤l k∧l k<(↑m:Int))∧((!M.Gd.stk z1 x z3 z0 f nl l)=true→(22:Int)=z5)∧((!M.Gd.stk z1 x z3 z0 f nl l)=false→z9=z5))∧(decide (z6≠z9)=true→z6=z5))) (M.Gd.ckE z1 ns x (1:Nat) (fun i=>z3) m z0 f) (M.Gd.veE z1 ns x z3 m z0 f nl l)) (M.fe (M.nuE m l) (nl-(0:Nat)) (0:Nat)) (0:Int) (M.Gd.mk w ht s v0 v1 d0 d1 r) (M.Sc.mk zk zc zq za zb) (100000:Nat) (fun i=>M.Pk.mk (pk i) (ps i) (pa i) (pb i) (pc i) (pd i)) (∀ (k:Nat),k<m→pk k=pk k∧ps k=ps k∧pa k=pa k∧pb k=pb k∧pc k=pc k∧pd k=pd k) (∀ (k:Nat),k<ns→x k=x k) (∀ (k:Nat),k<nl→l k=l k)
theorem r33 (w ht s v0 v1 d0 d1 r:Int) (ns:Nat) (x:Nat→Int) (f:Int) (zk zc zq za zb:Int) (m:Nat) (pk ps pa pb pc pd:Nat→Int) (nl:Nat) (l:Nat→Int):V true [] [(59,pureE e59),(74,pureE e74p)] Try.f33 [0,1,2,3,4,5,6,8,12,13,14,15,16,27,29,30,31,32,36,43,61] [(0,loopT false Try.f33.ntmps 0 (lp33 w ht s v0 v1 d0 d1 r ns x f zk zc zq za zb m pk ps pa pb pc pd nl l) (fun _ _ _=>(0:Nat)))] [.agg [SI w,SI ht,SI s,SI v0,SI v1,SI d0,SI d1,SI r],.sl 1 ns (fun k=>[SI (x k)]),.agg [SI zk,SI zc,SI zq,SI za,SI zb],.sl 6 m (fun k=>[SI (pk k),SI (ps k),SI (pa k),SI (pb k),SI (pc k),SI (pd k)]),SI f,.sl 1 nl (fun k=>[SI (l k)])] (SI (M.Gd.veE (M.Gd.mk w ht s v0 v1 d0 d1 r) ns x (M.Sc.mk zk zc zq za zb) m (fun i=>M.Pk.mk (pk i) (ps i) (pa i) (pb i) (pc i) (pd i)) f nl l))=Rr33 w ht s v0 v1 d0 d1 r ns x f zk zc zq za zb m pk ps pa pb pc pd nl l:=by kernel_rfl
theorem br33 (w ht s v0 v1 d0 d1 r:Int) (ns:Nat) (x:Nat→Int) (f:Int) (zk zc zq za zb:Int) (m:Nat) (pk ps pa pb pc pd:Nat→Int) (nl:Nat) (l:Nat→Int) (hp:(ns≤100000)∧(m≤100000)∧(nl≤100000)∧AllP []):Rr33 w ht s v0 v1 d0 d1 r ns x f zk zc zq za zb m pk ps pa pb pc pd nl l:=by
 unfold Rr33
 dsimp -iota -proj -eta -zeta only
 obtain ⟨h1,h2,h3,-⟩:=id hp
 have e1:M.Gd.ckE (M.Gd.mk w ht s v0 v1 d0 d1 r) ns x 1 (fun _=>(M.Sc.mk zk zc zq za zb)) m (fun i=>M.Pk.mk (pk i) (ps i) (pa i) (pb i) (pc i) (pd i)) f=M.Gd.ck1 (M.Gd.mk w ht s v0 v1 d0 d1 r) ns x (M.Sc.mk zk zc zq za zb) m (fun i=>M.Pk.mk (pk i) (ps i) (pa i) (pb i) (pc i) (pd i)) f:=rfl
 have e2:M.Gd.stk (M.Gd.mk w ht s v0 v1 d0 d1 r) x (M.Sc.mk zk zc zq za zb) (fun i=>M.Pk.mk (pk i) (ps i) (pa i) (pb i) (pc i) (pd i)) f nl l=(decide (zk=1) && !(M.Gd.lft (M.Gd.mk w ht s v0 v1 d0 d1 r) x (M.Sc.mk zk zc zq za zb) nl (fun j=>M.Pk.mk (pk (l j).toNat) (ps (l j).toNat) (pa (l j).toNat) (pb (l j).toNat) (pc (l j).toNat) (pd (l j).toNat)) f).1):=rfl
 unfold M.Gd.veE
 simp only [e1]
 by_cases c:M.Gd.ck1 (M.Gd.mk w ht s v0 v1 d0 d1 r) ns x (M.Sc.mk zk zc zq za zb) m (fun i=>M.Pk.mk (pk i) (ps i) (pa i) (pb i) (pc i) (pd i)) f=0
 ·obtain ⟨hk,hn,ha,hz,hm,hP,f1,f2⟩:=M.Gd.ck1_ok c
  by_cases c2:M.fe (M.nuE m l) nl 0=0
  ·obtain ⟨hl,hnl⟩:=M.nuE_ok c2
   have hn2:nl≤64:=by omega
   have hPl:∀ k,k<nl→M.Pk.Vd ns (M.Pk.mk (pk (l k).toNat) (ps (l k).toNat) (pa (l k).toNat) (pb (l k).toNat) (pc (l k).toNat) (pd (l k).toNat)):=fun k hk2=>hP (l k).toNat (by have:=hl k hk2; omega)
   by_cases c3:M.Gd.stk (M.Gd.mk w ht s v0 v1 d0 d1 r) x (M.Sc.mk zk zc zq za zb) (fun i=>M.Pk.mk (pk i) (ps i) (pa i) (pb i) (pc i) (pd i)) f nl l=true
   ·simp [c,c2,c3,h1,h2,h3,hk,hn,hn2,ha,hz,hm,f1,f2]
    first | exact ⟨hP,hl⟩ | exact ⟨by omega,hl,hPl⟩ | (refine ⟨?_,?_⟩ <;> first | omega | exact hP | exact hl)
   ·simp [c,c2,c3,h1,h2,h3,hk,hn,hn2,ha,hz,hm,f1,f2]
    first | exact ⟨hP,hl⟩ | exact ⟨by omega,hl,hPl⟩ | (refine ⟨?_,?_⟩ <;> first | omega | exact hP | exact hl)
  ·simp [c,c2,h1,h2,h3,hk,hn,ha,hz,hm,f1,f2]
   try omega
 ·simp [c,h1,h2,h3]
theorem s33:PureOK PP 33 e33:=by
 intro xs ps res h hp
 unfold e33 at h
 split at h
 ·rename_i w ht s v0 v1 d0 d1 r ns g_1 zk zc zq za zb m g_2 f nl g_3
  cases h
  simp only [AllP.cons] at hp
  obtain ⟨Hg_1,Hg_2,Hg_3,hp⟩:=hp
  exact Spec.args (enterH (Hold.of (r33 w ht s v0 v1 d0 d1 r ns (cI g_1 0) f zk zc zq za zb m (cI g_2 0) (cI g_2 1) (cI g_2 2) (cI g_2 3) (cI g_2 4) (cI g_2 5) nl (cI g_3 0)) (br33 w ht s v0 v1 d0 d1 r ns (cI g_1 0) f zk zc zq za zb m (cI g_2 0) (cI g_2 1) (cI g_2 2) (cI g_2 3) (cI g_2 4) (cI g_2 5) nl (cI g_3 0) hp)) (.nil) (.cons (pureE_ok s59) (.cons (pureE_ok s74p) (.nil))) (k:=33) (by kernel_rfl) (by kernel_rfl) (fun Y=>.cons (by kernel_rfl) (t33 w ht s v0 v1 d0 d1 r ns (cI g_1 0) f zk zc zq za zb m (cI g_2 0) (cI g_2 1) (cI g_2 2) (cI g_2 3) (cI g_2 4) (cI g_2 5) nl (cI g_3 0) FOK.wide Y) (.nil))) (.cons (.refl _) (.cons (.row Hg_1 fun _=>rfl) (.cons (.refl _) (.cons (.row Hg_2 fun _=>rfl) (.cons (.refl _) (.cons (.row Hg_3 fun _=>rfl) .nil))))))
 ·cases h
def e34:List SV→Option (List Prop × SV)
 | [.agg [.int .i64 w,.int .i64 ht,.int .i64 s,.int .i64 v0,.int .i64 v1,.int .i64 d0,.int .i64 d1,.int .i64 r],.sl 1 ns g_1,.agg [.int .i64 zk,.int .i64 zc,.int .i64 zq,.int .i64 za,.int .i64 zb],.sl 6 m g_2,.int .i64 f,.sl 1 nl g_3]=>some ([Row 1 ns g_1,Row 6 m g_2,Row 1 nl g_3,ns≤100000,m≤100000,nl≤100000],SI (M.Gd.veE (M.Gd.mk w ht s v0 v1 d0 d1 r) ns (cI g_1 0) (M.Sc.mk zk zc zq za zb) m (fun i=>M.Pk.mk ((cI g_2 0) i) ((cI g_2 1) i) ((cI g_2 2) i) ((cI g_2 3) i) ((cI g_2 4) i) ((cI g_2 5) i)) f nl (cI g_3 0)))
 | _=>none
def Rr34 (w ht s v0 v1 d0 d1 r:Int) (ns:Nat) (x:Nat→Int) (f:Int) (zk zc zq za zb:Int) (m:Nat) (pk ps pa pb pc pd:Nat→Int) (nl:Nat) (l:Nat→Int):Prop:=(fun (z4 z9:Int) (z6:M.Gd) (z11:Nat) (z3 z5 z10:Prop)=>(fun (z0:Bool × Int × Int) (z1 z2:Int)=>(fun (z7:Bool) (z8:Prop)=>(0:Nat)+(1:Nat)≤(1:Nat)∧z5∧(∀ (k:Nat),k<(1:Nat)→zk=zk∧zc=zc∧zq=zq∧za=za∧zb=zb)∧z3∧ns≤z11∧(1:Nat)≤z11∧m≤z11∧((!decide (z2=z9))=true→z2=z1)∧((!decide (z2=z9))=false→((0:Nat)≤nl∧nl≤z11∧m≤(64:Nat))∧((ns=ns∧z5)∧(m=m∧z3)∧f=f∧(nl=nl∧z10)∧z9=(↑(0:Nat):Int)∧w=w∧ht=ht∧s=s∧v0=v0∧v1=v1∧d0=d0∧d1=d1∧r=r∧zk=zk∧zc=zc∧zq=zq∧za=za∧zb=zb∧True)∧(decide (z4≠z9)=false→z3∧z10∧nl≤(1000:Nat)∧(∀ (k:Nat),k<nl→z9≤l k∧l k<(↑m:Int))∧z5∧(∀ (k:Nat),k<nl→pk (Int.toNat (l k))=pk (Int.toNat (l k))∧ps (Int.toNat (l k))=ps (Int.toNat (l k))∧pa (Int.toNat (l k))=pa (Int.toNat (l k))∧pb (Int.toNat (l k))=pb (Int.toNat (l k))∧pc (Int.toNat (l k))=pc (Int.toNat (l k))∧pd (Int.toNat (l k))=pd (Int.toNat (l k)))∧M.Gd.ok z6∧M.Gd.all z6 ns x∧ns≤(64:Nat)∧M.Gd.Sok z6 (M.Sc.mk zk zc zq za zb)∧(∀ (i:Nat),i<nl→M.Pk.Vd ns (M.Pk.mk (pk (Int.toNat (l i))) (ps (Int.toNat (l i))) (pa (Int.toNat (l i))) (pb (Int.toNat (l i))) (pc (Int.toNat (l i))) (pd (Int.toNat (l i)))))∧nl≤(64:Nat)∧(z8→z8)∧(z8→z8)∧(z0.1=false→z8)∧(z7=true→(22:Int)=z1)∧(z7=false→z9=z1))∧(decide (z4≠z9)=true→z4=z1))) (bif z0.1 then true else !decide (zk=(1:Int))) ((!z0.1)=true)) (M.Gd.lft z6 x (M.Sc.mk zk zc zq za zb) nl (fun i=>M.Pk.mk (pk (Int.toNat (l i))) (ps (Int.toNat (l i))) (pa (Int.toNat (l i))) (pb (Int.toNat (l i))) (pc (Int.toNat (l i))) (pd (Int.toNat (l i)))) f) (M.Gd.veE z6 ns x (M.Sc.mk zk zc zq za zb) m (fun i=>M.Pk.mk (pk i) (ps i) (pa i) (pb i) (pc i) (pd i)) f nl l) (M.Gd.ckE z6 ns x (1:Nat) (fun i=>M.Sc.mk zk zc zq za zb) m (fun i=>M.Pk.mk (pk i) (ps i) (pa i) (pb i) (pc i) (pd i)) f)) (M.fe (M.nuE m l) (nl-(0:Nat)) (0:Nat)) (0:Int) (M.Gd.mk w ht s v0 v1 d0 d1 r) (100000:Nat) (∀ (k:Nat),k<m→pk k=pk k∧ps k=ps k∧pa k=pa k∧pb k=pb k∧pc k=pc k∧pd k=pd k) (∀ (k:Nat),k<ns→x k=x k) (∀ (k:Nat),k<nl→l k=l k)
theorem r34 (w ht s v0 v1 d0 d1 r:Int) (ns:Nat) (x:Nat→Int) (f:Int) (zk zc zq za zb:Int) (m:Nat) (pk ps pa pb pc pd:Nat→Int) (nl:Nat) (l:Nat→Int):V true [] [(61,pureE e61),(78,pureE e78),(77,pureE e77)] Try.f34 [0,1,2,3,4,5,6,8,12,13,14,16,25,30,41,55,72] [(0,loopT false Try.f34.ntmps 0 (lp34 w ht s v0 v1 d0 d1 r ns x f zk zc zq za zb m pk ps pa pb pc pd nl l) (fun _ _ _=>(0:Nat)))] [.agg [SI w,SI ht,SI s,SI v0,SI v1,SI d0,SI d1,SI r],.sl 1 ns (fun k=>[SI (x k)]),.agg [SI zk,SI zc,SI zq,SI za,SI zb],.sl 6 m (fun k=>[SI (pk k),SI (ps k),SI (pa k),SI (pb k),SI (pc k),SI (pd k)]),SI f,.sl 1 nl (fun k=>[SI (l k)])] (SI (M.Gd.veE (M.Gd.mk w ht s v0 v1 d0 d1 r) ns x (M.Sc.mk zk zc zq za zb) m (fun i=>M.Pk.mk (pk i) (ps i) (pa i) (pb i) (pc i) (pd i)) f nl l))=Rr34 w ht s v0 v1 d0 d1 r ns x f zk zc zq za zb m pk ps pa pb pc pd nl l:=by kernel_rfl
theorem br34 (w ht s v0 v1 d0 d1 r:Int) (ns:Nat) (x:Nat→Int) (f:Int) (zk zc zq za zb:Int) (m:Nat) (pk ps pa pb pc pd:Nat→Int) (nl:Nat) (l:Nat→Int) (hp:(ns≤100000)∧(m≤100000)∧(nl≤100000)∧AllP []):Rr34 w ht s v0 v1 d0 d1 r ns x f zk zc zq za zb m pk ps pa pb pc pd nl l:=by
 unfold Rr34
 dsimp -iota -proj -eta -zeta only
 obtain ⟨h1,h2,h3,-⟩:=id hp
 have e1:M.Gd.ckE (M.Gd.mk w ht s v0 v1 d0 d1 r) ns x 1 (fun _=>(M.Sc.mk zk zc zq za zb)) m (fun i=>M.Pk.mk (pk i) (ps i) (pa i) (pb i) (pc i) (pd i)) f=M.Gd.ck1 (M.Gd.mk w ht s v0 v1 d0 d1 r) ns x (M.Sc.mk zk zc zq za zb) m (fun i=>M.Pk.mk (pk i) (ps i) (pa i) (pb i) (pc i) (pd i)) f:=rfl
 have e2:M.Gd.stk (M.Gd.mk w ht s v0 v1 d0 d1 r) x (M.Sc.mk zk zc zq za zb) (fun i=>M.Pk.mk (pk i) (ps i) (pa i) (pb i) (pc i) (pd i)) f nl l=(decide (zk=1) && !(M.Gd.lft (M.Gd.mk w ht s v0 v1 d0 d1 r) x (M.Sc.mk zk zc zq za zb) nl (fun j=>M.Pk.mk (pk (l j).toNat) (ps (l j).toNat) (pa (l j).toNat) (pb (l j).toNat) (pc (l j).toNat) (pd (l j).toNat)) f).1):=rfl
 unfold M.Gd.veE
 simp only [e1]
 by_cases c:M.Gd.ck1 (M.Gd.mk w ht s v0 v1 d0 d1 r) ns x (M.Sc.mk zk zc zq za zb) m (fun i=>M.Pk.mk (pk i) (ps i) (pa i) (pb i) (pc i) (pd i)) f=0
 ·obtain ⟨hk,hn,ha,hz,hm,hP,f1,f2⟩:=M.Gd.ck1_ok c
  by_cases c2:M.fe (M.nuE m l) nl 0=0
  ·obtain ⟨hl,hnl⟩:=M.nuE_ok c2
   have hn2:nl≤64:=by omega
   have hPl:∀ k,k<nl→M.Pk.Vd ns (M.Pk.mk (pk (l k).toNat) (ps (l k).toNat) (pa (l k).toNat) (pb (l k).toNat) (pc (l k).toNat) (pd (l k).toNat)):=fun k hk2=>hP (l k).toNat (by have:=hl k hk2; omega)
   rw [e2]
   obtain ⟨u,hu⟩ : ∃ u,u=M.Gd.lft (M.Gd.mk w ht s v0 v1 d0 d1 r) x (M.Sc.mk zk zc zq za zb) nl (fun j=>M.Pk.mk (pk (l j).toNat) (ps (l j).toNat) (pa (l j).toNat) (pb (l j).toNat) (pc (l j).toNat) (pd (l j).toNat)) f:=⟨_,rfl⟩
   simp only [← hu]
   by_cases c3:u.1=true
   ·simp [c,c2,c3,h1,h2,h3,hk,hn,hn2,ha,hz,hm,f1,f2]
    first | exact ⟨hP,hl⟩ | exact ⟨by omega,hl,hPl⟩ | (refine ⟨?_,?_⟩ <;> first | omega | exact hP | exact hl)
   ·by_cases c4:zk=1
    ·subst c4
     simp [c,c2,c3,h1,h2,h3,hk,hn,hn2,ha,hz,hm,f1,f2]
     first | exact ⟨hP,hl⟩ | exact ⟨by omega,hl,hPl⟩ | (refine ⟨?_,?_⟩ <;> first | omega | exact hP | exact hl)
    ·simp [c,c2,c3,c4,h1,h2,h3,hk,hn,hn2,ha,hz,hm,f1,f2]
     first | exact ⟨hP,hl⟩ | exact ⟨by omega,hl,hPl⟩ | (refine ⟨?_,?_⟩ <;> first | omega | exact hP | exact hl)
  ·simp [c,c2,h1,h2,h3,hk,hn,ha,hz,hm,f1,f2]
   try omega
 ·simp [c,h1,h2,h3]
theorem s34:PureOK PP 34 e34:=by
 intro xs ps res h hp
 unfold e34 at h
 split at h
 ·rename_i w ht s v0 v1 d0 d1 r ns g_1 zk zc zq za zb m g_2 f nl g_3
  cases h
  simp only [AllP.cons] at hp
  obtain ⟨Hg_1,Hg_2,Hg_3,hp⟩:=hp
  exact Spec.args (enterH (Hold.of (r34 w ht s v0 v1 d0 d1 r ns (cI g_1 0) f zk zc zq za zb m (cI g_2 0) (cI g_2 1) (cI g_2 2) (cI g_2 3) (cI g_2 4) (cI g_2 5) nl (cI g_3 0)) (br34 w ht s v0 v1 d0 d1 r ns (cI g_1 0) f zk zc zq za zb m (cI g_2 0) (cI g_2 1) (cI g_2 2) (cI g_2 3) (cI g_2 4) (cI g_2 5) nl (cI g_3 0) hp)) (.nil) (.cons (pureE_ok s61) (.cons (pureE_ok s78) (.cons (pureE_ok s77) (.nil)))) (k:=34) (by kernel_rfl) (by kernel_rfl) (fun Y=>.cons (by kernel_rfl) (t34 w ht s v0 v1 d0 d1 r ns (cI g_1 0) f zk zc zq za zb m (cI g_2 0) (cI g_2 1) (cI g_2 2) (cI g_2 3) (cI g_2 4) (cI g_2 5) nl (cI g_3 0) FOK.wide Y) (.nil))) (.cons (.refl _) (.cons (.row Hg_1 fun _=>rfl) (.cons (.refl _) (.cons (.row Hg_2 fun _=>rfl) (.cons (.refl _) (.cons (.row Hg_3 fun _=>rfl) .nil))))))
 ·cases h
end Go.Proofs.Ytoncoofmijjgeaa.Sep
namespace Go.Proofs.Ytoncoofmijjgeaa.M
open Go
set_option linter.unusedVariables false
set_option linter.unusedSimpArgs false
def flN (v : Int) (R : Nat → Int) : Nat → Nat
 | 0 => 0
 | j + 1 => if R j = v then flN v R j else flN v R j + 1
def flR (v : Int) (R : Nat → Int) : Nat → (Nat → Int)
 | 0 => fun _ => 0
 | j + 1 => if R j = v then flR v R j else fun k => if k < flN v R j then flR v R j k else R j
theorem fl_skip {v : Int} {R : Nat → Int} {j : Nat} (h : R j = v) : flN v R (j + 1) = flN v R j ∧ flR v R (j + 1) = flR v R j := by
 constructor
 ·conv => lhs; unfold flN
  rw [if_pos h]
 ·conv => lhs; unfold flR
  rw [if_pos h]
theorem fl_keep {v : Int} {R : Nat → Int} {j : Nat} (h : ¬ R j = v) : flN v R (j + 1) = flN v R j + 1 ∧ ∀ k, flR v R (j + 1) k = if k < flN v R j then flR v R j k else R j := by
 constructor
 ·conv => lhs; unfold flN
  rw [if_neg h]
 ·intro k
  conv => lhs; unfold flR
  rw [if_neg h]
theorem flN_le {v : Int} {R : Nat → Int} (j : Nat) : flN v R j ≤ j := by
 induction j with
 | zero => exact Nat.le_refl _
 | succ j ih =>
  by_cases h : R j = v
  ·rw [(fl_skip h).1]; omega
  ·rw [(fl_keep h).1]; omega
theorem fl_del {v : Int} {R : Nat → Int} {N p : Nat} (hp : R p = v) (ho : ∀ k, k < N → k ≠ p → R k ≠ v) : ∀ j, j ≤ N → (j ≤ p → flN v R j = j ∧ ∀ k, k < j → flR v R j k = R k) ∧ (p < j → flN v R j = j - 1 ∧ ∀ k, k < j - 1 → flR v R j k = delR p R k)
 | 0, _ => ⟨fun _ => ⟨rfl, fun k hk => by omega⟩, fun h => by omega⟩
 | j + 1, hj => by
  obtain ⟨i1, i2⟩ := fl_del hp ho j (by omega)
  by_cases c : j = p
  ·obtain ⟨e1, e2⟩ := fl_skip (v := v) (R := R) (j := j) (by rw [c]; exact hp)
   obtain ⟨a1, a2⟩ := i1 (by omega)
   refine ⟨fun h => by omega, fun h => ⟨by rw [e1, a1]; omega, fun k hk => ?_⟩⟩
   rw [e2, a2 k (by omega)]
   unfold delR
   rw [if_pos (by omega)]
  ·obtain ⟨e1, e2⟩ := fl_keep (v := v) (R := R) (j := j) (ho j (by omega) c)
   refine ⟨fun h => ?_, fun h => ?_⟩
   ·obtain ⟨a1, a2⟩ := i1 (by omega)
    refine ⟨by rw [e1, a1], fun k hk => ?_⟩
    rw [e2, a1]
    by_cases d1 : k < j
    ·rw [if_pos d1, a2 k d1]
    ·rw [if_neg d1, show k = j by omega]
   ·obtain ⟨a1, a2⟩ := i2 (by omega)
    refine ⟨by rw [e1, a1]; omega, fun k hk => ?_⟩
    rw [e2, a1]
    by_cases d1 : k < j - 1
    ·rw [if_pos d1, a2 k d1]
    ·rw [if_neg d1]
     unfold delR
     rw [if_neg (by omega), show k + 1 = j by omega]
namespace Gd
variable {g : Gd} {x : Nat → Int} {s : Sc} {f : Int} {m : Nat} {P : Nat → Pk} {d : Nat}
theorem pr_at (h : d < m) : g.prR x s m P f d (m - 1 - d) = (m : Int) - 1 - d ∧ ∀ k, k < g.prN x s m P f d → k ≠ m - 1 - d → g.prR x s m P f d k ≠ (m : Int) - 1 - d := by
 have hs := prL_split (g := g) (x := x) (s := s) (P := P) (f := f) h
 constructor
 ·unfold prR rowN
  rw [hs, List.getD_eq_getElem?_getD, List.getElem?_append_right (by simp)]
  simp
  omega
 ·intro k hk hne
  unfold prN at hk
  unfold prR rowN
  rw [hs] at hk ⊢
  rw [List.getD_eq_getElem?_getD]
  by_cases c : k < m - 1 - d
  ·rw [List.getElem?_append_left (by simpa using c)]
   simp [c]
   omega
  ·rw [List.getElem?_append_right (by simp; omega)]
   simp only [List.length_range]
   obtain ⟨q, hq⟩ : ∃ q, k - (m - 1 - d) = q + 1 := ⟨k - (m - 1 - d) - 1, by omega⟩
   rw [hq, List.getElem?_cons_succ]
   simp only [List.length_append, List.length_range, List.length_cons] at hk
   have hlt : q < (g.prD x s m P f d).length := by omega
   rw [List.getElem?_eq_getElem hlt, Option.getD_some]
   have := prD_ge (g := g) (x := x) (s := s) (P := P) (f := f) (d := d) (m := m) (by omega) _ (List.getElem_mem hlt)
   omega
theorem fl_pr (h : d < m) : flN ((m : Int) - 1 - d) (g.prR x s m P f d) (g.prN x s m P f d) = g.prN x s m P f d - 1 ∧ ∀ k, k < g.prN x s m P f d - 1 → flR ((m : Int) - 1 - d) (g.prR x s m P f d) (g.prN x s m P f d) k = delR (m - 1 - d) (g.prR x s m P f d) k := by
 obtain ⟨a, b⟩ := pr_at (g := g) (x := x) (s := s) (P := P) (f := f) h
 obtain ⟨-, -, e⟩ := del_rest (g := g) (x := x) (s := s) (P := P) (f := f) h
 exact (fl_del a b _ (Nat.le_refl _)).2 e
end Gd
end Go.Proofs.Ytoncoofmijjgeaa.M
namespace Go.Proofs.Ytoncoofmijjgeaa.Sep
open Go
set_option linter.unusedVariables false
set_option linter.unusedSimpArgs false
--#def SOME(i) XX
def lp31a (w ht s v0 v1 d0 d1 r:Int) (ns:Nat) (x:Nat→Int) (f:Int) (zk zc zq za zb:Int) (m:Nat) (pk ps pa pb pc pd:Nat→Int):LoopS where
 ι:=Nat
 β:=Unit
 pre i:=i≤m∧m≤64
 μ i:=m-i
 next i _ _ _:=i+1
 out _:=()
 early _:=false
 SA i:=[(1,.sl 1 ns (fun k=>[SI (x k)])),(3,.sl 6 m (fun j=>[SI (pk j),SI (ps j),SI (pa j),SI (pb j),SI (pc j),SI (pd j)])),(4,SI f),(5,.ptr 0 0),(7,.ptr 1 0),(16,.vec 3 1 0 i),(17,SI i)]
 SH i:=[(0,.cells [SI w,SI ht,SI s,SI v0,SI v1,SI d0,SI d1,SI r]),(1,.cells [SI zk,SI zc,SI zq,SI za,SI zb]),(3,.row 1 i (fun k=>[SI (k:Int)]))]
 n0:=4
 NA _:=[(1,.sl 1 ns (fun k=>[SI (x k)])),(3,.sl 6 m (fun j=>[SI (pk j),SI (ps j),SI (pa j),SI (pb j),SI (pc j),SI (pd j)])),(4,SI f),(5,.ptr 0 0),(7,.ptr 1 0),(16,.vec 3 1 0 m)]
 NH _:=[(0,.cells [SI w,SI ht,SI s,SI v0,SI v1,SI d0,SI d1,SI r]),(1,.cells [SI zk,SI zc,SI zq,SI za,SI zb]),(3,.row 1 m (fun k=>[SI (k:Int)]))]
 n1:=4
 RA _:=[]
 RH _:=[]
def Rq31a (w ht s v0 v1 d0 d1 r:Int) (ns:Nat) (x:Nat→Int) (f:Int) (zk zc zq za zb:Int) (m:Nat) (pk ps pa pb pc pd:Nat→Int) (i:Nat):Prop:=(fun (z3:Int) (z1:Nat) (z0 z2:Prop)=>(decide (z3<(↑m:Int))=true→(0:Nat)+(1:Nat)≤(1:Nat)∧(∀ (k:Nat),k<(1:Nat)→true=true)∧i≤i∧z1*(8:Nat)≤(140737488355328:Nat)∧R64 (z3+(1:Int))∧(z1≤m∧m≤(64:Nat))∧m-z1<m-i∧()=()∧z2∧z0∧f=f∧(0:Nat)=(0:Nat)∧z1=z1∧z3+(1:Int)=(↑z1:Int)∧w=w∧ht=ht∧s=s∧v0=v0∧v1=v1∧d0=d0∧d1=d1∧r=r∧zk=zk∧zc=zc∧zq=zq∧za=za∧zb=zb∧z1≤z1∧(∀ (k:Nat),k<z1→(bif decide (k<i) then (↑k:Int) else z3)=(↑k:Int))∧True)∧(decide (z3<(↑m:Int))=false→false=false∧z2∧z0∧f=f∧(0:Nat)=(0:Nat)∧i=m∧w=w∧ht=ht∧s=s∧v0=v0∧v1=v1∧d0=d0∧d1=d1∧r=r∧zk=zk∧zc=zc∧zq=zq∧za=za∧zb=zb∧m≤i∧(∀ (k:Nat),k<m→(↑k:Int)=(↑k:Int))∧True)) (↑i:Int) (i+(1:Nat)) (m=m∧∀ (k:Nat),k<m→pk k=pk k∧ps k=ps k∧pa k=pa k∧pb k=pb k∧pc k=pc k∧pd k=pd k) (ns=ns∧∀ (k:Nat),k<ns→x k=x k)
theorem q31a (w ht s v0 v1 d0 d1 r:Int) (ns:Nat) (x:Nat→Int) (f:Int) (zk zc zq za zb:Int) (m:Nat) (pk ps pa pb pc pd:Nat→Int) (i:Nat):VL true [] [] YS.none Try.f31 0 [0,1,2,3,4,5,7,10,11,12,13,15,16,17,18,19,20,22,31,47,51,62,68,76,96] [] 0 (lp31a w ht s v0 v1 d0 d1 r ns x f zk zc zq za zb m pk ps pa pb pc pd) (i)=Rq31a w ht s v0 v1 d0 d1 r ns x f zk zc zq za zb m pk ps pa pb pc pd i:=by kernel_rfl
theorem peq31a (w ht s v0 v1 d0 d1 r:Int) (ns:Nat) (x:Nat→Int) (f:Int) (zk zc zq za zb:Int) (m:Nat) (pk ps pa pb pc pd:Nat→Int) (i:Nat):(lp31a w ht s v0 v1 d0 d1 r ns x f zk zc zq za zb m pk ps pa pb pc pd).pre (i)=(i≤m∧m≤(64:Nat)):=by kernel_rfl
theorem bq31a (w ht s v0 v1 d0 d1 r:Int) (ns:Nat) (x:Nat→Int) (f:Int) (zk zc zq za zb:Int) (m:Nat) (pk ps pa pb pc pd:Nat→Int) (i:Nat) (hp:i≤m∧m≤(64:Nat)):Rq31a w ht s v0 v1 d0 d1 r ns x f zk zc zq za zb m pk ps pa pb pc pd i:=by
 unfold Rq31a
 dsimp -iota -proj -eta -zeta only
 obtain ⟨h1,h2⟩:=id hp
 have r1:R64 ((i:Int)+1):=by unfold R64; omega
 simp only [r1]
 by_cases hl:i<m
 ·have hl':(i:Int)<m:=by omega
  have e3:∀ k,k<i+1→(bif decide (k<i) then (k:Int) else (i:Int))=k:=fun k hk2=>by
   by_cases d1:k<i
   ·simp [d1]
   ·have:k=i:=by omega
    subst this; simp
  simp [hl,hl',h2]
  repeat' apply And.intro
  all_goals first | omega | exact fun k hk2=>by simpa using e3 k hk2
 ·have e:i=m:=by omega
  subst e
  simp
theorem t31a (w ht s v0 v1 d0 d1 r:Int) (ns:Nat) (x:Nat→Int) (f:Int) (zk zc zq za zb:Int) (m:Nat) (pk ps pa pb pc pd:Nat→Int) {F:Fence} (hF:FOK F) (Y:YEnv PP YS.none):∀ Q A H nx,loopT false Try.f31.ntmps 0 (lp31a w ht s v0 v1 d0 d1 r ns x f zk zc zq za zb m pk ps pa pb pc pd) (fun _ _ _=>(0:Nat)) Q A H nx→WPS Y F Try.f31.ntmps 0 (.block 0 (blkAt 0 Try.f31)) Q A H nx :=
 loopW (E:=[]) (.nil) (O:=[]) (.nil) (ck:=true) (L:=[0,1,2,3,4,5,7,10,11,12,13,15,16,17,18,19,20,22,31,47,51,62,68,76,96]) (f:=Try.f31) (m:=0) (id:=0) (l:=(lp31a w ht s v0 v1 d0 d1 r ns x f zk zc zq za zb m pk ps pa pb pc pd)) (LI:=fun i=>[]) Y hF (by kernel_rfl) (fun _=>.nil) (by
  rintro i hp
  exact Hold.of (q31a w ht s v0 v1 d0 d1 r ns x f zk zc zq za zb m pk ps pa pb pc pd i) (bq31a w ht s v0 v1 d0 d1 r ns x f zk zc zq za zb m pk ps pa pb pc pd i ((peq31a w ht s v0 v1 d0 d1 r ns x f zk zc zq za zb m pk ps pa pb pc pd i).mp hp)))
def lp31c (w ht s v0 v1 d0 d1 r:Int) (ns:Nat) (x:Nat→Int) (f:Int) (zk zc zq za zb:Int) (m:Nat) (pk ps pa pb pc pd:Nat→Int) (d:Nat):LoopS where
 ι:=Nat
 β:=Unit
 pre j:=j≤(M.Gd.prN (M.Gd.mk w ht s v0 v1 d0 d1 r) x (M.Sc.mk zk zc zq za zb) m (fun i=>M.Pk.mk (pk i) (ps i) (pa i) (pb i) (pc i) (pd i)) f d)∧d<m∧m≤64
 μ j:=(M.Gd.prN (M.Gd.mk w ht s v0 v1 d0 d1 r) x (M.Sc.mk zk zc zq za zb) m (fun i=>M.Pk.mk (pk i) (ps i) (pa i) (pb i) (pc i) (pd i)) f d)-j
 next j _ _ _:=j+1
 out _:=()
 early _:=false
 SA j:=[(1,.sl 1 ns (fun k=>[SI (x k)])),(3,.sl 6 m (fun j=>[SI (pk j),SI (ps j),SI (pa j),SI (pb j),SI (pc j),SI (pd j)])),(4,SI f),(5,.ptr 0 0),(7,.ptr 1 0),(16,.vec 3 1 0 (M.Gd.prN (M.Gd.mk w ht s v0 v1 d0 d1 r) x (M.Sc.mk zk zc zq za zb) m (fun i=>M.Pk.mk (pk i) (ps i) (pa i) (pb i) (pc i) (pd i)) f d)),(18,SI ((m:Int)-1-d)),(19,.vec 4 1 0 (M.flN ((m:Int)-1-d) (M.Gd.prR (M.Gd.mk w ht s v0 v1 d0 d1 r) x (M.Sc.mk zk zc zq za zb) m (fun i=>M.Pk.mk (pk i) (ps i) (pa i) (pb i) (pc i) (pd i)) f d) j)),(20,SI j)]
 SH j:=[(0,.cells [SI w,SI ht,SI s,SI v0,SI v1,SI d0,SI d1,SI r]),(1,.cells [SI zk,SI zc,SI zq,SI za,SI zb]),(3,.row 1 (M.Gd.prN (M.Gd.mk w ht s v0 v1 d0 d1 r) x (M.Sc.mk zk zc zq za zb) m (fun i=>M.Pk.mk (pk i) (ps i) (pa i) (pb i) (pc i) (pd i)) f d) (fun k=>[SI ((M.Gd.prR (M.Gd.mk w ht s v0 v1 d0 d1 r) x (M.Sc.mk zk zc zq za zb) m (fun i=>M.Pk.mk (pk i) (ps i) (pa i) (pb i) (pc i) (pd i)) f d) k)])),(4,.row 1 (M.flN ((m:Int)-1-d) (M.Gd.prR (M.Gd.mk w ht s v0 v1 d0 d1 r) x (M.Sc.mk zk zc zq za zb) m (fun i=>M.Pk.mk (pk i) (ps i) (pa i) (pb i) (pc i) (pd i)) f d) j) (fun k=>[SI (M.flR ((m:Int)-1-d) (M.Gd.prR (M.Gd.mk w ht s v0 v1 d0 d1 r) x (M.Sc.mk zk zc zq za zb) m (fun i=>M.Pk.mk (pk i) (ps i) (pa i) (pb i) (pc i) (pd i)) f d) j k)]))]
 n0:=5
 NA _:=[(1,.sl 1 ns (fun k=>[SI (x k)])),(3,.sl 6 m (fun j=>[SI (pk j),SI (ps j),SI (pa j),SI (pb j),SI (pc j),SI (pd j)])),(4,SI f),(5,.ptr 0 0),(7,.ptr 1 0),(16,.vec 3 1 0 (M.Gd.prN (M.Gd.mk w ht s v0 v1 d0 d1 r) x (M.Sc.mk zk zc zq za zb) m (fun i=>M.Pk.mk (pk i) (ps i) (pa i) (pb i) (pc i) (pd i)) f d)),(18,SI ((m:Int)-1-d)),(19,.vec 4 1 0 ((M.Gd.prN (M.Gd.mk w ht s v0 v1 d0 d1 r) x (M.Sc.mk zk zc zq za zb) m (fun i=>M.Pk.mk (pk i) (ps i) (pa i) (pb i) (pc i) (pd i)) f d)-1))]
 NH _:=[(0,.cells [SI w,SI ht,SI s,SI v0,SI v1,SI d0,SI d1,SI r]),(1,.cells [SI zk,SI zc,SI zq,SI za,SI zb]),(3,.row 1 (M.Gd.prN (M.Gd.mk w ht s v0 v1 d0 d1 r) x (M.Sc.mk zk zc zq za zb) m (fun i=>M.Pk.mk (pk i) (ps i) (pa i) (pb i) (pc i) (pd i)) f d) (fun k=>[SI ((M.Gd.prR (M.Gd.mk w ht s v0 v1 d0 d1 r) x (M.Sc.mk zk zc zq za zb) m (fun i=>M.Pk.mk (pk i) (ps i) (pa i) (pb i) (pc i) (pd i)) f d) k)])),(4,.row 1 ((M.Gd.prN (M.Gd.mk w ht s v0 v1 d0 d1 r) x (M.Sc.mk zk zc zq za zb) m (fun i=>M.Pk.mk (pk i) (ps i) (pa i) (pb i) (pc i) (pd i)) f d)-1) (fun k=>[SI (M.delR (m-1-d) (M.Gd.prR (M.Gd.mk w ht s v0 v1 d0 d1 r) x (M.Sc.mk zk zc zq za zb) m (fun i=>M.Pk.mk (pk i) (ps i) (pa i) (pb i) (pc i) (pd i)) f d) k)]))]
 n1:=5
 RA _:=[]
 RH _:=[]
def Rq31c (w ht s v0 v1 d0 d1 r:Int) (ns:Nat) (x:Nat→Int) (f:Int) (zk zc zq za zb:Int) (m:Nat) (pk ps pa pb pc pd:Nat→Int) (d:Nat) (j:Nat):Prop:=(fun (z2 z5:Int) (z1 z7 z11:Nat) (z0:Nat→Int) (z3 z8:Prop)=>(fun (z13:Int) (z4 z10:Nat) (z14:Nat→(Nat→Int)) (z6:Nat→Nat) (z9:Prop)=>(fun (z12:Prop)=>(decide (z5<(↑z1:Int))=true→(0:Int)≤z5∧z5<(↑z1:Int)∧z10<z1∧((!decide (z0 z10=z2))=true→(0:Int)≤z5∧z5<(↑z1:Int)∧z10<z1∧z7+z11≤z11∧(∀ (k:Nat),k<z11→true=true)∧z6 j≤z6 j∧(z6 j+z11)*(8:Nat)≤(140737488355328:Nat)∧R64 z13∧z12∧z1-z4<z1-j∧()=()∧z8∧z3∧f=f∧z7=z7∧z1=z1∧z2=z2∧z7=z7∧z6 j+z11=z6 z4∧z13=(↑z4:Int)∧w=w∧ht=ht∧s=s∧v0=v0∧v1=v1∧d0=d0∧d1=d1∧r=r∧zk=zk∧zc=zc∧zq=zq∧za=za∧zb=zb∧z1≤z1∧z9∧z6 z4≤z6 j+z11∧(∀ (k:Nat),k<z6 z4→(bif decide (k<z6 j) then z14 j k else z0 z10)=z14 z4 k)∧True)∧((!decide (z0 z10=z2))=false→R64 z13∧z12∧z1-z4<z1-j∧()=()∧z8∧z3∧f=f∧z7=z7∧z1=z1∧z2=z2∧z7=z7∧z6 j=z6 z4∧z13=(↑z4:Int)∧w=w∧ht=ht∧s=s∧v0=v0∧v1=v1∧d0=d0∧d1=d1∧r=r∧zk=zk∧zc=zc∧zq=zq∧za=za∧zb=zb∧z1≤z1∧z9∧z6 z4≤z6 j∧(∀ (k:Nat),k<z6 z4→z14 j k=z14 z4 k)∧True))∧(decide (z5<(↑z1:Int))=false→false=false∧z8∧z3∧f=f∧z7=z7∧z1=z1∧z2=z2∧z7=z7∧z6 j=z1-z11∧w=w∧ht=ht∧s=s∧v0=v0∧v1=v1∧d0=d0∧d1=d1∧r=r∧zk=zk∧zc=zc∧zq=zq∧za=za∧zb=zb∧z1≤z1∧z9∧z1-z11≤z6 j∧(∀ (k:Nat),k<z1-z11→z14 j k=M.delR (m-z11-d) z0 k)∧True)) (z4≤z1∧d<m∧m≤(64:Nat))) (z5+(1:Int)) (j+z11) (z7+Int.toNat z5) (M.flR z2 z0) (M.flN z2 z0) (∀ (k:Nat),k<z1→z0 k=z0 k)) ((↑m:Int)-(1:Int)-(↑d:Int)) (↑j:Int) (M.Gd.prN (M.Gd.mk w ht s v0 v1 d0 d1 r) x (M.Sc.mk zk zc zq za zb) m (fun i=>M.Pk.mk (pk i) (ps i) (pa i) (pb i) (pc i) (pd i)) f d) (0:Nat) (1:Nat) (M.Gd.prR (M.Gd.mk w ht s v0 v1 d0 d1 r) x (M.Sc.mk zk zc zq za zb) m (fun i=>M.Pk.mk (pk i) (ps i) (pa i) (pb i) (pc i) (pd i)) f d) (m=m∧∀ (k:Nat),k<m→pk k=pk k∧ps k=ps k∧pa k=pa k∧pb k=pb k∧pc k=pc k∧pd k=pd k) (ns=ns∧∀ (k:Nat),k<ns→x k=x k)
theorem q31c (w ht s v0 v1 d0 d1 r:Int) (ns:Nat) (x:Nat→Int) (f:Int) (zk zc zq za zb:Int) (m:Nat) (pk ps pa pb pc pd:Nat→Int) (d:Nat) (j:Nat):VL true [] [] YS.none Try.f31 0 [0,1,2,3,4,5,7,10,11,12,13,15,16,17,18,19,20,22,31,47,51,62,68,76,96] [] 4 (lp31c w ht s v0 v1 d0 d1 r ns x f zk zc zq za zb m pk ps pa pb pc pd d) (j)=Rq31c w ht s v0 v1 d0 d1 r ns x f zk zc zq za zb m pk ps pa pb pc pd d j:=by kernel_rfl
theorem peq31c (w ht s v0 v1 d0 d1 r:Int) (ns:Nat) (x:Nat→Int) (f:Int) (zk zc zq za zb:Int) (m:Nat) (pk ps pa pb pc pd:Nat→Int) (d:Nat) (j:Nat):(lp31c w ht s v0 v1 d0 d1 r ns x f zk zc zq za zb m pk ps pa pb pc pd d).pre (j)=(j≤M.Gd.prN (M.Gd.mk w ht s v0 v1 d0 d1 r) x (M.Sc.mk zk zc zq za zb) m (fun i=>M.Pk.mk (pk i) (ps i) (pa i) (pb i) (pc i) (pd i)) f d ∧
 d<m∧m≤(64:Nat)):=by kernel_rfl
theorem bq31c (w ht s v0 v1 d0 d1 r:Int) (ns:Nat) (x:Nat→Int) (f:Int) (zk zc zq za zb:Int) (m:Nat) (pk ps pa pb pc pd:Nat→Int) (d:Nat) (j:Nat) (hp:j≤M.Gd.prN (M.Gd.mk w ht s v0 v1 d0 d1 r) x (M.Sc.mk zk zc zq za zb) m (fun i=>M.Pk.mk (pk i) (ps i) (pa i) (pb i) (pc i) (pd i)) f d ∧
 d<m∧m≤(64:Nat)):Rq31c w ht s v0 v1 d0 d1 r ns x f zk zc zq za zb m pk ps pa pb pc pd d j:=by
 unfold Rq31c
 dsimp -iota -proj -eta -zeta only
 obtain ⟨h1,h2,h3⟩:=id hp
 have hle:=M.Gd.prN_le (g:=(M.Gd.mk w ht s v0 v1 d0 d1 r)) (x:=x) (s:=(M.Sc.mk zk zc zq za zb)) (P:=(fun i=>M.Pk.mk (pk i) (ps i) (pa i) (pb i) (pc i) (pd i))) (f:=f) (show d≤m by omega)
 obtain ⟨g1,g2⟩:=M.Gd.fl_pr (g:=(M.Gd.mk w ht s v0 v1 d0 d1 r)) (x:=x) (s:=(M.Sc.mk zk zc zq za zb)) (P:=(fun i=>M.Pk.mk (pk i) (ps i) (pa i) (pb i) (pc i) (pd i))) (f:=f) h2
 have hfl:=@M.flN_le ((m:Int)-1-d) (M.Gd.prR (M.Gd.mk w ht s v0 v1 d0 d1 r) x (M.Sc.mk zk zc zq za zb) m (fun i=>M.Pk.mk (pk i) (ps i) (pa i) (pb i) (pc i) (pd i)) f d) j
 have hsk:=@M.fl_skip ((m:Int)-1-d) (M.Gd.prR (M.Gd.mk w ht s v0 v1 d0 d1 r) x (M.Sc.mk zk zc zq za zb) m (fun i=>M.Pk.mk (pk i) (ps i) (pa i) (pb i) (pc i) (pd i)) f d) j
 have hkp:=@M.fl_keep ((m:Int)-1-d) (M.Gd.prR (M.Gd.mk w ht s v0 v1 d0 d1 r) x (M.Sc.mk zk zc zq za zb) m (fun i=>M.Pk.mk (pk i) (ps i) (pa i) (pb i) (pc i) (pd i)) f d) j
 have r1:R64 ((j:Int)+1):=by unfold R64; omega
 simp only [Int.toNat_natCast,Nat.zero_add,r1]
 generalize M.delR (m-1-d) (M.Gd.prR (M.Gd.mk w ht s v0 v1 d0 d1 r) x (M.Sc.mk zk zc zq za zb) m (fun i=>M.Pk.mk (pk i) (ps i) (pa i) (pb i) (pc i) (pd i)) f d)=D0 at *
 generalize (M.Gd.prN (M.Gd.mk w ht s v0 v1 d0 d1 r) x (M.Sc.mk zk zc zq za zb) m (fun i=>M.Pk.mk (pk i) (ps i) (pa i) (pb i) (pc i) (pd i)) f d)=Z at *
 generalize (M.Gd.prR (M.Gd.mk w ht s v0 v1 d0 d1 r) x (M.Sc.mk zk zc zq za zb) m (fun i=>M.Pk.mk (pk i) (ps i) (pa i) (pb i) (pc i) (pd i)) f d)=Y at *
 by_cases hl:j<Z
 ·have hl':(j:Int)<Z:=by omega
  by_cases c:Y j=((m:Int)-1-d)
  ·obtain ⟨e1,e2⟩:=hsk c
   simp only [e1,e2]
   simp [hl,hl',c,h2,h3]
   try omega
  ·obtain ⟨e1,e2⟩:=hkp c
   simp only [e1]
   generalize M.flN ((m:Int)-1-d) Y j=na at *
   have e3:∀ k,k<na+1→(bif decide (k<na) then M.flR ((m:Int)-1-d) Y j k else Y j)=M.flR ((m:Int)-1-d) Y (j+1) k:=fun k hk2=>by
    rw [e2 k]
    by_cases d1:k<na <;> simp [d1]
   simp [hl,hl',c,h2,h3]
   repeat' apply And.intro
   all_goals first | omega | exact fun k hk2=>by simpa using e3 k hk2
 ·have e:j=Z:=by omega
  subst e
  simp [g1]
  try exact fun k hk2=>g2 k hk2
theorem t31c (w ht s v0 v1 d0 d1 r:Int) (ns:Nat) (x:Nat→Int) (f:Int) (zk zc zq za zb:Int) (m:Nat) (pk ps pa pb pc pd:Nat→Int) (d:Nat) {F:Fence} (hF:FOK F) (Y:YEnv PP YS.none):∀ Q A H nx,loopT false Try.f31.ntmps 0 (lp31c w ht s v0 v1 d0 d1 r ns x f zk zc zq za zb m pk ps pa pb pc pd d) (fun _ _ _=>(0:Nat)) Q A H nx→WPS Y F Try.f31.ntmps 0 (.block 4 (blkAt 4 Try.f31)) Q A H nx :=
 loopW (E:=[]) (.nil) (O:=[]) (.nil) (ck:=true) (L:=[0,1,2,3,4,5,7,10,11,12,13,15,16,17,18,19,20,22,31,47,51,62,68,76,96]) (f:=Try.f31) (m:=0) (id:=4) (l:=(lp31c w ht s v0 v1 d0 d1 r ns x f zk zc zq za zb m pk ps pa pb pc pd d)) (LI:=fun i=>[]) Y hF (by kernel_rfl) (fun _=>.nil) (by
  rintro j hp
  exact Hold.of (q31c w ht s v0 v1 d0 d1 r ns x f zk zc zq za zb m pk ps pa pb pc pd d j) (bq31c w ht s v0 v1 d0 d1 r ns x f zk zc zq za zb m pk ps pa pb pc pd d j ((peq31c w ht s v0 v1 d0 d1 r ns x f zk zc zq za zb m pk ps pa pb pc pd d j).mp hp)))
def lp31b (w ht s v0 v1 d0 d1 r:Int) (ns:Nat) (x:Nat→Int) (f:Int) (zk zc zq za zb:Int) (m:Nat) (pk ps pa pb pc pd:Nat→Int):LoopS where
 ι:=Nat
 β:=Unit
 pre d:=d≤m∧zk=1∧M.Gd.ok (M.Gd.mk w ht s v0 v1 d0 d1 r)∧M.Gd.all (M.Gd.mk w ht s v0 v1 d0 d1 r) ns x∧ns≤64∧M.Gd.Sok (M.Gd.mk w ht s v0 v1 d0 d1 r) (M.Sc.mk zk zc zq za zb)∧(∀ i,i<m→M.Pk.Vd ns ((fun i=>M.Pk.mk (pk i) (ps i) (pa i) (pb i) (pc i) (pd i)) i))∧m≤64∧0≤f∧f≤8
 μ d:=m-d
 next d _ _ _:=d+1
 out _:=()
 early _:=false
 SA d:=[(1,.sl 1 ns (fun k=>[SI (x k)])),(3,.sl 6 m (fun j=>[SI (pk j),SI (ps j),SI (pa j),SI (pb j),SI (pc j),SI (pd j)])),(4,SI f),(5,.ptr 0 0),(7,.ptr 1 0),(16,.vec 3 1 0 (M.Gd.prN (M.Gd.mk w ht s v0 v1 d0 d1 r) x (M.Sc.mk zk zc zq za zb) m (fun i=>M.Pk.mk (pk i) (ps i) (pa i) (pb i) (pc i) (pd i)) f d)),(18,SI ((m:Int)-1-d))]
 SH d:=[(0,.cells [SI w,SI ht,SI s,SI v0,SI v1,SI d0,SI d1,SI r]),(1,.cells [SI zk,SI zc,SI zq,SI za,SI zb]),(3,.row 1 (M.Gd.prN (M.Gd.mk w ht s v0 v1 d0 d1 r) x (M.Sc.mk zk zc zq za zb) m (fun i=>M.Pk.mk (pk i) (ps i) (pa i) (pb i) (pc i) (pd i)) f d) (fun k=>[SI ((M.Gd.prR (M.Gd.mk w ht s v0 v1 d0 d1 r) x (M.Sc.mk zk zc zq za zb) m (fun i=>M.Pk.mk (pk i) (ps i) (pa i) (pb i) (pc i) (pd i)) f d) k)]))]
 n0:=4
 NA _:=[(16,.vec 0 1 0 (M.Gd.prN (M.Gd.mk w ht s v0 v1 d0 d1 r) x (M.Sc.mk zk zc zq za zb) m (fun i=>M.Pk.mk (pk i) (ps i) (pa i) (pb i) (pc i) (pd i)) f m))]
 NH _:=[(0,.row 1 (M.Gd.prN (M.Gd.mk w ht s v0 v1 d0 d1 r) x (M.Sc.mk zk zc zq za zb) m (fun i=>M.Pk.mk (pk i) (ps i) (pa i) (pb i) (pc i) (pd i)) f m) (fun k=>[SI (M.Gd.prR (M.Gd.mk w ht s v0 v1 d0 d1 r) x (M.Sc.mk zk zc zq za zb) m (fun i=>M.Pk.mk (pk i) (ps i) (pa i) (pb i) (pc i) (pd i)) f m k)]))]
 n1:=1
 RA _:=[]
 RH _:=[]
def Rq31b (w ht s v0 v1 d0 d1 r:Int) (ns:Nat) (x:Nat→Int) (f:Int) (zk zc zq za zb:Int) (m:Nat) (pk ps pa pb pc pd:Nat→Int) (d:Nat):Prop:=(fun (z6:Int) (z3:M.Gd) (z4:M.Sc) (z13 z16:Nat) (z2:Nat→M.Pk) (z5 z12:Prop)=>(fun (z1 z9 z15:Nat) (z10:Nat→Int) (z7 z14:Prop)=>(fun (z11:Nat) (z0:Nat→Int)=>(fun (z8:Bool)=>(decide ((0:Int)≤z6)=true→(z13≤z1∧d<m∧m≤(64:Nat))∧((ns=ns∧z12)∧(m=m∧z5)∧f=f∧z13=z13∧z1=z1∧z6=z6∧M.flN z6 z10 z13=z13∧(0:Int)=(↑z13:Int)∧w=w∧ht=ht∧s=s∧v0=v0∧v1=v1∧d0=d0∧d1=d1∧r=r∧zk=zk∧zc=zc∧zq=zq∧za=za∧zb=zb∧z1≤z1∧(∀ (k:Nat),k<z1→z10 k=z10 k)∧M.flN z6 z10 z13=z13∧True)∧(false=false→z5∧(∀ (k:Nat),k<z11→z0 k=z0 k)∧z11≤(1000:Nat)∧(∀ (k:Nat),k<z11→(0:Int)≤z0 k∧z0 k<(↑m:Int))∧z11=z11∧z12∧(∀ (k:Nat),k<z11→pk (Int.toNat (z0 k))=pk (Int.toNat (z0 k))∧ps (Int.toNat (z0 k))=ps (Int.toNat (z0 k))∧pa (Int.toNat (z0 k))=pa (Int.toNat (z0 k))∧pb (Int.toNat (z0 k))=pb (Int.toNat (z0 k))∧pc (Int.toNat (z0 k))=pc (Int.toNat (z0 k))∧pd (Int.toNat (z0 k))=pd (Int.toNat (z0 k)))∧M.Gd.ok z3∧M.Gd.all z3 ns x∧ns≤(64:Nat)∧M.Gd.Sok z3 z4∧(∀ (i:Nat),i<z11→M.Pk.Vd ns (M.Pk.mk (pk (Int.toNat (z0 i))) (ps (Int.toNat (z0 i))) (pa (Int.toNat (z0 i))) (pb (Int.toNat (z0 i))) (pc (Int.toNat (z0 i))) (pd (Int.toNat (z0 i)))))∧z11≤(64:Nat)∧(z8=true→R64 (z6-(1:Int))∧z7∧m-z16<m-d∧()=()∧(ns=ns∧z12)∧(m=m∧z5)∧f=f∧z13=z13∧z11=z9∧z14∧w=w∧ht=ht∧s=s∧v0=v0∧v1=v1∧d0=d0∧d1=d1∧r=r∧zk=zk∧zc=zc∧zq=zq∧za=za∧zb=zb∧z9≤z11∧(∀ (k:Nat),k<z9→z0 k=M.Gd.prR z3 x z4 m z2 f z16 k)∧True)∧(z8=false→R64 (z6-(1:Int))∧z7∧m-z16<m-d∧()=()∧(ns=ns∧z12)∧(m=m∧z5)∧f=f∧z13=z13∧z1=z9∧z14∧w=w∧ht=ht∧s=s∧v0=v0∧v1=v1∧d0=d0∧d1=d1∧r=r∧zk=zk∧zc=zc∧zq=zq∧za=za∧zb=zb∧z9≤z1∧(∀ (k:Nat),k<z9→z10 k=M.Gd.prR z3 x z4 m z2 f z16 k)∧True))∧(false=true→false=true∧True))∧(decide ((0:Int)≤z6)=false→false=false∧z13=z13∧z1=z15∧z15≤z1∧(∀ (k:Nat),k<z15→z10 k=M.Gd.prR z3 x z4 m z2 f m k)∧True)) (!(M.Gd.lft z3 x z4 z11 (fun i=>M.Pk.mk (pk (Int.toNat (z0 i))) (ps (Int.toNat (z0 i))) (pa (Int.toNat (z0 i))) (pb (Int.toNat (z0 i))) (pc (Int.toNat (z0 i))) (pd (Int.toNat (z0 i)))) f).1)) (z1-(1:Nat)) (M.delR (m-(1:Nat)-d) z10)) (M.Gd.prN z3 x z4 m z2 f d) (M.Gd.prN z3 x z4 m z2 f z16) (M.Gd.prN z3 x z4 m z2 f m) (M.Gd.prR z3 x z4 m z2 f d) (z16≤m∧zk=(1:Int)∧M.Gd.ok z3∧M.Gd.all z3 ns x∧ns≤(64:Nat)∧M.Gd.Sok z3 z4∧(∀ (i:Nat),i<m→M.Pk.Vd ns (M.Pk.mk (pk i) (ps i) (pa i) (pb i) (pc i) (pd i)))∧m≤(64:Nat)∧(0:Int)≤f∧f≤(8:Int)) (z6-(1:Int)=(↑m:Int)-(1:Int)-(↑z16:Int))) ((↑m:Int)-(1:Int)-(↑d:Int)) (M.Gd.mk w ht s v0 v1 d0 d1 r) (M.Sc.mk zk zc zq za zb) (0:Nat) (d+(1:Nat)) (fun i=>M.Pk.mk (pk i) (ps i) (pa i) (pb i) (pc i) (pd i)) (∀ (k:Nat),k<m→pk k=pk k∧ps k=ps k∧pa k=pa k∧pb k=pb k∧pc k=pc k∧pd k=pd k) (∀ (k:Nat),k<ns→x k=x k)
theorem q31b (w ht s v0 v1 d0 d1 r:Int) (ns:Nat) (x:Nat→Int) (f:Int) (zk zc zq za zb:Int) (m:Nat) (pk ps pa pb pc pd:Nat→Int) (d:Nat):VL true [] [(78,specW e78o),(77,pureE e77)] YS.none Try.f31 0 [0,1,2,3,4,5,7,10,11,12,13,15,16,17,18,19,20,22,31,47,51,62,68,76,96] [(4,loopT false Try.f31.ntmps 0 (lp31c w ht s v0 v1 d0 d1 r ns x f zk zc zq za zb m pk ps pa pb pc pd d) (fun _ _ _=>(0:Nat)))] 2 (lp31b w ht s v0 v1 d0 d1 r ns x f zk zc zq za zb m pk ps pa pb pc pd) (d)=Rq31b w ht s v0 v1 d0 d1 r ns x f zk zc zq za zb m pk ps pa pb pc pd d:=by kernel_rfl
theorem peq31b (w ht s v0 v1 d0 d1 r:Int) (ns:Nat) (x:Nat→Int) (f:Int) (zk zc zq za zb:Int) (m:Nat) (pk ps pa pb pc pd:Nat→Int) (d:Nat):(lp31b w ht s v0 v1 d0 d1 r ns x f zk zc zq za zb m pk ps pa pb pc pd).pre (d)=(d≤m ∧
 zk=(1:Int) ∧
  M.Gd.ok (M.Gd.mk w ht s v0 v1 d0 d1 r) ∧
   M.Gd.all (M.Gd.mk w ht s v0 v1 d0 d1 r) ns x ∧
    ns≤(64:Nat) ∧
     M.Gd.Sok (M.Gd.mk w ht s v0 v1 d0 d1 r) (M.Sc.mk zk zc zq za zb) ∧
      (∀ (i:Nat),i<m→M.Pk.Vd ns (M.Pk.mk (pk i) (ps i) (pa i) (pb i) (pc i) (pd i)))∧m≤(64:Nat)∧(0:Int)≤f∧f≤(8:Int)):=by kernel_rfl
theorem bq31b (w ht s v0 v1 d0 d1 r:Int) (ns:Nat) (x:Nat→Int) (f:Int) (zk zc zq za zb:Int) (m:Nat) (pk ps pa pb pc pd:Nat→Int) (d:Nat) (hp:d≤m ∧
 zk=(1:Int) ∧
  M.Gd.ok (M.Gd.mk w ht s v0 v1 d0 d1 r) ∧
   M.Gd.all (M.Gd.mk w ht s v0 v1 d0 d1 r) ns x ∧
    ns≤(64:Nat) ∧
     M.Gd.Sok (M.Gd.mk w ht s v0 v1 d0 d1 r) (M.Sc.mk zk zc zq za zb) ∧
      (∀ (i:Nat),i<m→M.Pk.Vd ns (M.Pk.mk (pk i) (ps i) (pa i) (pb i) (pc i) (pd i)))∧m≤(64:Nat)∧(0:Int)≤f∧f≤(8:Int)):Rq31b w ht s v0 v1 d0 d1 r ns x f zk zc zq za zb m pk ps pa pb pc pd d:=by
 unfold Rq31b
 dsimp -iota -proj -eta -zeta only
 obtain ⟨h1,hk1,hk,ha,hn,hz,hP,hm,f1,f2⟩:=id hp
 by_cases hl:d<m
 ·have hl':(0:Int)≤(m:Int)-1-d:=by omega
  obtain ⟨u1,u2⟩:=M.Gd.prN_succ (g:=(M.Gd.mk w ht s v0 v1 d0 d1 r)) (x:=x) (s:=(M.Sc.mk zk zc zq za zb)) (P:=(fun i=>M.Pk.mk (pk i) (ps i) (pa i) (pb i) (pc i) (pd i))) (f:=f) hl
  obtain ⟨q1,q2,q3⟩:=M.Gd.del_rest (g:=(M.Gd.mk w ht s v0 v1 d0 d1 r)) (x:=x) (s:=(M.Sc.mk zk zc zq za zb)) (P:=(fun i=>M.Pk.mk (pk i) (ps i) (pa i) (pb i) (pc i) (pd i))) (f:=f) hl
  have q4:=M.Gd.prN_le (g:=(M.Gd.mk w ht s v0 v1 d0 d1 r)) (x:=x) (s:=(M.Sc.mk zk zc zq za zb)) (P:=(fun i=>M.Pk.mk (pk i) (ps i) (pa i) (pb i) (pc i) (pd i))) (f:=f) (show d≤m by omega)
  have q5:=fun k hk2=>M.Gd.del_in (g:=(M.Gd.mk w ht s v0 v1 d0 d1 r)) (x:=x) (s:=(M.Sc.mk zk zc zq za zb)) (P:=(fun i=>M.Pk.mk (pk i) (ps i) (pa i) (pb i) (pc i) (pd i))) (f:=f) hl (k:=k) hk2
  have r2:R64 ((m:Int)-1-d-1):=by unfold R64; omega
  simp only [u1,u2,r2]
  clear u1 u2 q1 q2
  generalize M.Gd.prN (M.Gd.mk w ht s v0 v1 d0 d1 r) x (M.Sc.mk zk zc zq za zb) m (fun i=>M.Pk.mk (pk i) (ps i) (pa i) (pb i) (pc i) (pd i)) f d=Z at *
  generalize M.delR (m-1-d) (M.Gd.prR (M.Gd.mk w ht s v0 v1 d0 d1 r) x (M.Sc.mk zk zc zq za zb) m (fun i=>M.Pk.mk (pk i) (ps i) (pa i) (pb i) (pc i) (pd i)) f d)=D0 at *
  have hPl:∀ k,k<Z-1→M.Pk.Vd ns (M.Pk.mk (pk (D0 k).toNat) (ps (D0 k).toNat) (pa (D0 k).toNat) (pb (D0 k).toNat) (pc (D0 k).toNat) (pd (D0 k).toNat)):=fun k hk2=>hP (D0 k).toNat (by have:=q5 k hk2; omega)
  have e2:M.Gd.stk (M.Gd.mk w ht s v0 v1 d0 d1 r) x (M.Sc.mk zk zc zq za zb) (fun i=>M.Pk.mk (pk i) (ps i) (pa i) (pb i) (pc i) (pd i)) f (Z-1) D0=(decide (zk=1) && !(M.Gd.lft (M.Gd.mk w ht s v0 v1 d0 d1 r) x (M.Sc.mk zk zc zq za zb) (Z-1) (fun j=>M.Pk.mk (pk (D0 j).toNat) (ps (D0 j).toNat) (pa (D0 j).toNat) (pb (D0 j).toNat) (pc (D0 j).toNat) (pd (D0 j).toNat)) f).1):=rfl
  rw [e2]
  obtain ⟨u,hu⟩ : ∃ u,u=M.Gd.lft (M.Gd.mk w ht s v0 v1 d0 d1 r) x (M.Sc.mk zk zc zq za zb) (Z-1) (fun j=>M.Pk.mk (pk (D0 j).toNat) (ps (D0 j).toNat) (pa (D0 j).toNat) (pb (D0 j).toNat) (pc (D0 j).toNat) (pd (D0 j).toNat)) f:=⟨_,rfl⟩
  simp only [← hu]
  clear hu e2
  subst hk1
  have hl2:(d:Int)≤(m:Int)-1:=by omega
  have z0:∀ v R,M.flN v R 0=0:=fun _ _=>rfl
  by_cases c:u.1=true
  ·simp [hl,hl',hl2,z0,c,hk,ha,hn,hz,hm,f1,f2]
   repeat' apply And.intro
   all_goals first | omega | exact hP | exact hPl | exact q5
  ·simp [hl,hl',hl2,z0,c,hk,ha,hn,hz,hm,f1,f2]
   repeat' apply And.intro
   all_goals first | omega | exact hP | exact hPl | exact q5
 ·have e:d=m:=by omega
  subst e
  have hl':¬ (0:Int)≤(d:Int)-1-d:=by omega
  simp [hl']
  try omega
theorem t31b (w ht s v0 v1 d0 d1 r:Int) (ns:Nat) (x:Nat→Int) (f:Int) (zk zc zq za zb:Int) (m:Nat) (pk ps pa pb pc pd:Nat→Int) {F:Fence} (hF:FOK F) (Y:YEnv PP YS.none):∀ Q A H nx,loopT false Try.f31.ntmps 0 (lp31b w ht s v0 v1 d0 d1 r ns x f zk zc zq za zb m pk ps pa pb pc pd) (fun _ _ _=>(0:Nat)) Q A H nx→WPS Y F Try.f31.ntmps 0 (.block 2 (blkAt 2 Try.f31)) Q A H nx :=
 loopW (E:=[]) (.nil) (O:=[(78,specW e78o),(77,pureE e77)]) (.cons (specW_ok s78o) (.cons (pureE_ok s77) (.nil))) (ck:=true) (L:=[0,1,2,3,4,5,7,10,11,12,13,15,16,17,18,19,20,22,31,47,51,62,68,76,96]) (f:=Try.f31) (m:=0) (id:=2) (l:=(lp31b w ht s v0 v1 d0 d1 r ns x f zk zc zq za zb m pk ps pa pb pc pd)) (LI:=fun (d:Nat)=>[(4,loopT false Try.f31.ntmps 0 (lp31c w ht s v0 v1 d0 d1 r ns x f zk zc zq za zb m pk ps pa pb pc pd d) (fun _ _ _=>(0:Nat)))]) Y hF (by kernel_rfl) (fun (d:Nat)=>.cons (by kernel_rfl) (t31c w ht s v0 v1 d0 d1 r ns x f zk zc zq za zb m pk ps pa pb pc pd d hF Y) (.nil)) (by
  rintro d hp
  exact Hold.of (q31b w ht s v0 v1 d0 d1 r ns x f zk zc zq za zb m pk ps pa pb pc pd d) (bq31b w ht s v0 v1 d0 d1 r ns x f zk zc zq za zb m pk ps pa pb pc pd d ((peq31b w ht s v0 v1 d0 d1 r ns x f zk zc zq za zb m pk ps pa pb pc pd d).mp hp)))
def e31:List SV→Option (List Prop × SV)
 | [.agg [.int .i64 w,.int .i64 ht,.int .i64 s,.int .i64 v0,.int .i64 v1,.int .i64 d0,.int .i64 d1,.int .i64 r],.sl 1 ns g_1,.agg [.int .i64 zk,.int .i64 zc,.int .i64 zq,.int .i64 za,.int .i64 zb],.sl 6 m g_2,.int .i64 f]=>some ([Row 1 ns g_1,Row 6 m g_2,ns≤100000,m≤100000],.tup [.sl 1 (if (M.Gd.ck1 (M.Gd.mk w ht s v0 v1 d0 d1 r) ns (cI g_1 0) (M.Sc.mk zk zc zq za zb) m (fun i=>M.Pk.mk ((cI g_2 0) i) ((cI g_2 1) i) ((cI g_2 2) i) ((cI g_2 3) i) ((cI g_2 4) i) ((cI g_2 5) i)) f)=0∧(M.Gd.stA (M.Gd.mk w ht s v0 v1 d0 d1 r) (cI g_1 0) (M.Sc.mk zk zc zq za zb) m (fun i=>M.Pk.mk ((cI g_2 0) i) ((cI g_2 1) i) ((cI g_2 2) i) ((cI g_2 3) i) ((cI g_2 4) i) ((cI g_2 5) i)) f)=true then M.Gd.prN (M.Gd.mk w ht s v0 v1 d0 d1 r) (cI g_1 0) (M.Sc.mk zk zc zq za zb) m (fun i=>M.Pk.mk ((cI g_2 0) i) ((cI g_2 1) i) ((cI g_2 2) i) ((cI g_2 3) i) ((cI g_2 4) i) ((cI g_2 5) i)) f m else 0) (fun k=>[SI (M.Gd.prR (M.Gd.mk w ht s v0 v1 d0 d1 r) (cI g_1 0) (M.Sc.mk zk zc zq za zb) m (fun i=>M.Pk.mk ((cI g_2 0) i) ((cI g_2 1) i) ((cI g_2 2) i) ((cI g_2 3) i) ((cI g_2 4) i) ((cI g_2 5) i)) f m k)]),.bool (decide ((M.Gd.ck1 (M.Gd.mk w ht s v0 v1 d0 d1 r) ns (cI g_1 0) (M.Sc.mk zk zc zq za zb) m (fun i=>M.Pk.mk ((cI g_2 0) i) ((cI g_2 1) i) ((cI g_2 2) i) ((cI g_2 3) i) ((cI g_2 4) i) ((cI g_2 5) i)) f)=0∧(M.Gd.stA (M.Gd.mk w ht s v0 v1 d0 d1 r) (cI g_1 0) (M.Sc.mk zk zc zq za zb) m (fun i=>M.Pk.mk ((cI g_2 0) i) ((cI g_2 1) i) ((cI g_2 2) i) ((cI g_2 3) i) ((cI g_2 4) i) ((cI g_2 5) i)) f)=true)),SI (M.Gd.ck1 (M.Gd.mk w ht s v0 v1 d0 d1 r) ns (cI g_1 0) (M.Sc.mk zk zc zq za zb) m (fun i=>M.Pk.mk ((cI g_2 0) i) ((cI g_2 1) i) ((cI g_2 2) i) ((cI g_2 3) i) ((cI g_2 4) i) ((cI g_2 5) i)) f)])
 | _=>none
def Rr31 (w ht s v0 v1 d0 d1 r:Int) (ns:Nat) (x:Nat→Int) (f:Int) (zk zc zq za zb:Int) (m:Nat) (pk ps pa pb pc pd:Nat→Int):Prop:=(fun (z16:Int) (z1:M.Gd) (z2:M.Sc) (z7:Nat) (z0:Nat→M.Pk) (z3 z8 z10:Prop)=>(fun (z5:Bool × Int × Int) (z9 z13:Int) (z11 z14:Nat)=>(fun (z6 z12:Bool) (z4:Nat) (z15:Prop)=>z7+(1:Nat)≤(1:Nat)∧z8∧(∀ (k:Nat),k<(1:Nat)→zk=zk∧zc=zc∧zq=zq∧za=za∧zb=zb)∧z3∧ns≤(100000:Nat)∧(1:Nat)≤(100000:Nat)∧m≤(100000:Nat)∧((!decide (z9=(0:Int)))=true→z4=z7∧false=z6∧z9=z13)∧((!decide (z9=(0:Int)))=false→z8∧z3∧M.Gd.ok z1∧M.Gd.all z1 ns x∧ns≤(64:Nat)∧M.Gd.Sok z1 z2∧z10∧m≤(64:Nat)∧(z15→z15)∧(z15→z15)∧(z5.1=false→z15)∧(z12=true→z4=z7∧false=z6∧(0:Int)=z13)∧(z12=false→(z7≤m∧m≤(64:Nat))∧((ns=ns∧z8)∧(m=m∧z3)∧f=f∧z7=z7∧(0:Int)=(↑z7:Int)∧w=w∧ht=ht∧s=s∧v0=v0∧v1=v1∧d0=d0∧d1=d1∧r=r∧zk=zk∧zc=zc∧zq=zq∧za=za∧zb=zb∧z7=z7∧True)∧(false=false→R64 z16∧(z7≤m∧zk=(1:Int)∧M.Gd.ok z1∧M.Gd.all z1 ns x∧ns≤(64:Nat)∧M.Gd.Sok z1 z2∧z10∧m≤(64:Nat)∧(0:Int)≤f∧f≤(8:Int))∧((ns=ns∧z8)∧(m=m∧z3)∧f=f∧z7=z7∧m=z14∧z16=z16-(↑z7:Int)∧w=w∧ht=ht∧s=s∧v0=v0∧v1=v1∧d0=d0∧d1=d1∧r=r∧zk=zk∧zc=zc∧zq=zq∧za=za∧zb=zb∧z14≤m∧(∀ (k:Nat),k<z14→(↑k:Int)=M.Gd.prR z1 x z2 m z0 f z7 k)∧True)∧(false=false→z7+z11≤z11∧((z11=z4)∧∀ (k:Nat),k<z11→M.Gd.prR z1 x z2 m z0 f m (z7+k)=M.Gd.prR z1 x z2 m z0 f m k)∧true=z6∧(0:Int)=z13)∧(false=true→False))∧(false=true→False)))) (decide (z13=(0:Int)∧M.Gd.stA z1 x z2 m z0 f=true)) (bif z5.1 then true else !decide (zk=(1:Int))) (if z13=(0:Int)∧M.Gd.stA z1 x z2 m z0 f=true then z11 else z7) ((!z5.1)=true)) (M.Gd.lft z1 x z2 m z0 f) (M.Gd.ckE z1 ns x (1:Nat) (fun i=>z2) m z0 f) (M.Gd.ck1 z1 ns x z2 m z0 f) (M.Gd.prN z1 x z2 m z0 f m) (M.Gd.prN z1 x z2 m z0 f z7)) ((↑m:Int)-(1:Int)) (M.Gd.mk w ht s v0 v1 d0 d1 r) (M.Sc.mk zk zc zq za zb) (0:Nat) (fun i=>M.Pk.mk (pk i) (ps i) (pa i) (pb i) (pc i) (pd i)) (∀ (k:Nat),k<m→pk k=pk k∧ps k=ps k∧pa k=pa k∧pb k=pb k∧pc k=pc k∧pd k=pd k) (∀ (k:Nat),k<ns→x k=x k) (∀ (i:Nat),i<m→M.Pk.Vd ns (M.Pk.mk (pk i) (ps i) (pa i) (pb i) (pc i) (pd i)))
theorem r31 (w ht s v0 v1 d0 d1 r:Int) (ns:Nat) (x:Nat→Int) (f:Int) (zk zc zq za zb:Int) (m:Nat) (pk ps pa pb pc pd:Nat→Int):V true [] [(61,pureE e61),(77,pureE e77)] Try.f31 [0,1,2,3,4,5,7,10,11,12,13,15,16,17,18,19,20,22,31,47,51,62,68,76,96] [(0,loopT false Try.f31.ntmps 0 (lp31a w ht s v0 v1 d0 d1 r ns x f zk zc zq za zb m pk ps pa pb pc pd) (fun _ _ _=>(0:Nat))),(2,loopT false Try.f31.ntmps 0 (lp31b w ht s v0 v1 d0 d1 r ns x f zk zc zq za zb m pk ps pa pb pc pd) (fun _ _ _=>(0:Nat)))] [.agg [SI w,SI ht,SI s,SI v0,SI v1,SI d0,SI d1,SI r],.sl 1 ns (fun k=>[SI (x k)]),.agg [SI zk,SI zc,SI zq,SI za,SI zb],.sl 6 m (fun k=>[SI (pk k),SI (ps k),SI (pa k),SI (pb k),SI (pc k),SI (pd k)]),SI f] (.tup [.sl 1 (if (M.Gd.ck1 (M.Gd.mk w ht s v0 v1 d0 d1 r) ns x (M.Sc.mk zk zc zq za zb) m (fun i=>M.Pk.mk (pk i) (ps i) (pa i) (pb i) (pc i) (pd i)) f)=0∧(M.Gd.stA (M.Gd.mk w ht s v0 v1 d0 d1 r) x (M.Sc.mk zk zc zq za zb) m (fun i=>M.Pk.mk (pk i) (ps i) (pa i) (pb i) (pc i) (pd i)) f)=true then M.Gd.prN (M.Gd.mk w ht s v0 v1 d0 d1 r) x (M.Sc.mk zk zc zq za zb) m (fun i=>M.Pk.mk (pk i) (ps i) (pa i) (pb i) (pc i) (pd i)) f m else 0) (fun k=>[SI (M.Gd.prR (M.Gd.mk w ht s v0 v1 d0 d1 r) x (M.Sc.mk zk zc zq za zb) m (fun i=>M.Pk.mk (pk i) (ps i) (pa i) (pb i) (pc i) (pd i)) f m k)]),.bool (decide ((M.Gd.ck1 (M.Gd.mk w ht s v0 v1 d0 d1 r) ns x (M.Sc.mk zk zc zq za zb) m (fun i=>M.Pk.mk (pk i) (ps i) (pa i) (pb i) (pc i) (pd i)) f)=0∧(M.Gd.stA (M.Gd.mk w ht s v0 v1 d0 d1 r) x (M.Sc.mk zk zc zq za zb) m (fun i=>M.Pk.mk (pk i) (ps i) (pa i) (pb i) (pc i) (pd i)) f)=true)),SI (M.Gd.ck1 (M.Gd.mk w ht s v0 v1 d0 d1 r) ns x (M.Sc.mk zk zc zq za zb) m (fun i=>M.Pk.mk (pk i) (ps i) (pa i) (pb i) (pc i) (pd i)) f)])=Rr31 w ht s v0 v1 d0 d1 r ns x f zk zc zq za zb m pk ps pa pb pc pd:=by kernel_rfl
theorem br31 (w ht s v0 v1 d0 d1 r:Int) (ns:Nat) (x:Nat→Int) (f:Int) (zk zc zq za zb:Int) (m:Nat) (pk ps pa pb pc pd:Nat→Int) (hp:(ns≤100000)∧(m≤100000)∧AllP []):Rr31 w ht s v0 v1 d0 d1 r ns x f zk zc zq za zb m pk ps pa pb pc pd:=by
 unfold Rr31
 dsimp -iota -proj -eta -zeta only
 obtain ⟨h1,h2,-⟩:=id hp
 have r1:R64 (m:Int):=by unfold R64; omega
 have r2:R64 ((m:Int)-1):=by unfold R64; omega
 obtain ⟨p1,p2⟩:=@M.Gd.pr_zero (M.Gd.mk w ht s v0 v1 d0 d1 r) x (M.Sc.mk zk zc zq za zb) f m (fun i=>M.Pk.mk (pk i) (ps i) (pa i) (pb i) (pc i) (pd i))
 have e1:M.Gd.ckE (M.Gd.mk w ht s v0 v1 d0 d1 r) ns x 1 (fun _=>(M.Sc.mk zk zc zq za zb)) m (fun i=>M.Pk.mk (pk i) (ps i) (pa i) (pb i) (pc i) (pd i)) f=M.Gd.ck1 (M.Gd.mk w ht s v0 v1 d0 d1 r) ns x (M.Sc.mk zk zc zq za zb) m (fun i=>M.Pk.mk (pk i) (ps i) (pa i) (pb i) (pc i) (pd i)) f:=rfl
 have e2:=@M.Gd.stA_lft (M.Gd.mk w ht s v0 v1 d0 d1 r) x (M.Sc.mk zk zc zq za zb) f m (fun i=>M.Pk.mk (pk i) (ps i) (pa i) (pb i) (pc i) (pd i))
 simp only [e1,r1,r2]
 by_cases c:(M.Gd.ck1 (M.Gd.mk w ht s v0 v1 d0 d1 r) ns x (M.Sc.mk zk zc zq za zb) m (fun i=>M.Pk.mk (pk i) (ps i) (pa i) (pb i) (pc i) (pd i)) f)=0
 ·obtain ⟨hk,hn,ha,hz,hm,hP,f1,f2⟩:=M.Gd.ck1_ok c
  rw [e2]
  simp only [p1]
  obtain ⟨u,hu⟩ : ∃ u,u=M.Gd.lft (M.Gd.mk w ht s v0 v1 d0 d1 r) x (M.Sc.mk zk zc zq za zb) m (fun i=>M.Pk.mk (pk i) (ps i) (pa i) (pb i) (pc i) (pd i)) f:=⟨_,rfl⟩
  simp only [← hu]
  clear hu e2
  by_cases c3:u.1=true
  ·simp [c,c3,h1,h2,hk,hn,ha,hz,hm,f1,f2]
   try exact hP
  ·by_cases c4:zk=1
   ·subst c4
    simp [c,c3,h1,h2,hk,hn,ha,hz,hm,f1,f2]
    exact ⟨hP,fun k hk2=>(p2 k hk2).symm⟩
   ·simp [c,c3,c4,h1,h2,hk,hn,ha,hz,hm,f1,f2]
    try exact hP
 ·simp [c,h1,h2]
theorem s31:PureOK PP 31 e31:=by
 intro xs ps res h hp
 unfold e31 at h
 split at h
 ·rename_i w ht s v0 v1 d0 d1 r ns g_1 zk zc zq za zb m g_2 f
  cases h
  simp only [AllP.cons] at hp
  obtain ⟨Hg_1,Hg_2,hp⟩:=hp
  exact Spec.args (enterH (Hold.of (r31 w ht s v0 v1 d0 d1 r ns (cI g_1 0) f zk zc zq za zb m (cI g_2 0) (cI g_2 1) (cI g_2 2) (cI g_2 3) (cI g_2 4) (cI g_2 5)) (br31 w ht s v0 v1 d0 d1 r ns (cI g_1 0) f zk zc zq za zb m (cI g_2 0) (cI g_2 1) (cI g_2 2) (cI g_2 3) (cI g_2 4) (cI g_2 5) hp)) (.nil) (.cons (pureE_ok s61) (.cons (pureE_ok s77) (.nil))) (k:=31) (by kernel_rfl) (by kernel_rfl) (fun Y=>.cons (by kernel_rfl) (t31a w ht s v0 v1 d0 d1 r ns (cI g_1 0) f zk zc zq za zb m (cI g_2 0) (cI g_2 1) (cI g_2 2) (cI g_2 3) (cI g_2 4) (cI g_2 5) FOK.wide Y) (.cons (by kernel_rfl) (t31b w ht s v0 v1 d0 d1 r ns (cI g_1 0) f zk zc zq za zb m (cI g_2 0) (cI g_2 1) (cI g_2 2) (cI g_2 3) (cI g_2 4) (cI g_2 5) FOK.wide Y) (.nil)))) (.cons (.refl _) (.cons (.row Hg_1 fun _=>rfl) (.cons (.refl _) (.cons (.row Hg_2 fun _=>rfl) (.cons (.refl _) .nil)))))
 ·cases h
theorem same1_self {n:Nat} {s:Nat→Int} : M.same1 n n s s=true:=M.same1_iff.2 ⟨rfl,fun _ _=>rfl⟩
def e7:List SV→Option (List Prop × SV)
 | [.agg [.int .i64 w,.int .i64 ht,.int .i64 s,.int .i64 v0,.int .i64 v1,.int .i64 d0,.int .i64 d1,.int .i64 r],.sl 1 ns g_1,.agg [.int .i64 zk,.int .i64 zc,.int .i64 zq,.int .i64 za,.int .i64 zb],.sl 6 m g_2,.int .i64 f,.sl 1 nl g_3]=>some ([Row 1 ns g_1,Row 6 m g_2,Row 1 nl g_3],.bool true)
 | _=>none
def Rr7 (w ht s v0 v1 d0 d1 r:Int) (ns:Nat) (x:Nat→Int) (f:Int) (zk zc zq za zb:Int) (m:Nat) (pk ps pa pb pc pd:Nat→Int) (nl:Nat) (l:Nat→Int):Prop:=(fun (z2 z5:Bool) (z4:Int) (z3 z11:Nat) (z7:Nat→Int) (z6 z10 z12:Prop)=>(fun (z1 z15:Bool) (z18 z19:Prop)=>(fun (z0:Bool) (z9 z16:Prop)=>(fun (z14:Bool) (z13:Prop)=>(fun (z8 z17:Prop)=>(z10→z10)∧(z10→z10)∧(decide ((70:Int)<(↑ns:Int))=false→z10)∧(z19→z19)∧(z19→z19)∧(z5=false→z19)∧(z15=true→true=true)∧(z15=false→z12∧z6∧ns≤z11∧m≤z11∧z6∧m≤(1000:Nat)∧z12∧z6∧ns≤z11∧m≤z11∧z18∧z18∧z3≤z11∧z3≤z11∧z16∧z16∧z16∧(z9→z9)∧(z9→z9)∧(z9→z9)∧z8∧z8∧z8∧z8∧z8∧z8∧(z13→z12)∧(z13→z6)∧z17∧(z13→ns≤z11)∧(z13→m≤z11)∧(z13→nl≤z11)∧z8∧(z13→z6)∧(z13→m≤(1000:Nat))∧z8∧z8∧z8∧z8∧z8∧z8∧(z13→z12)∧(z13→z6)∧z17∧(z13→ns≤z11)∧(z13→m≤z11)∧(z13→nl≤z11)∧z8∧z8∧z8∧(z14=true→z14=true)∧(bif z14 then true else false)=true)) (z13→z13) (z13→∀ (k:Nat),k<nl→l k=l k)) (bif z0 then decide (z4=z4) else false) (z0=true)) (bif bif z1 then z2 == z2 else false then decide (M.Gd.ck1 (M.Gd.mk w ht s v0 v1 d0 d1 r) ns x (M.Sc.mk zk zc zq za zb) m (fun i=>M.Pk.mk (pk i) (ps i) (pa i) (pb i) (pc i) (pd i)) f=M.Gd.ck1 (M.Gd.mk w ht s v0 v1 d0 d1 r) ns x (M.Sc.mk zk zc zq za zb) m (fun i=>M.Pk.mk (pk i) (ps i) (pa i) (pb i) (pc i) (pd i)) f) else false) ((bif z1 then z2 == z2 else false)=true) (z1=true→z1=true)) (M.same1 z3 z3 z7 z7) (bif z5 then true else decide ((70:Int)<(↑nl:Int))) (∀ (k:Nat),(k<z3)→z7 k=z7 k) ((!z5)=true)) (decide (M.Gd.ck1 (M.Gd.mk w ht s v0 v1 d0 d1 r) ns x (M.Sc.mk zk zc zq za zb) m (fun i=>M.Pk.mk (pk i) (ps i) (pa i) (pb i) (pc i) (pd i)) f=(0:Int)∧M.Gd.stA (M.Gd.mk w ht s v0 v1 d0 d1 r) x (M.Sc.mk zk zc zq za zb) m (fun i=>M.Pk.mk (pk i) (ps i) (pa i) (pb i) (pc i) (pd i)) f=true)) (bif decide ((70:Int)<(↑ns:Int)) then true else decide ((70:Int)<(↑m:Int))) (M.Gd.veE (M.Gd.mk w ht s v0 v1 d0 d1 r) ns x (M.Sc.mk zk zc zq za zb) m (fun i=>M.Pk.mk (pk i) (ps i) (pa i) (pb i) (pc i) (pd i)) f nl l) (if M.Gd.ck1 (M.Gd.mk w ht s v0 v1 d0 d1 r) ns x (M.Sc.mk zk zc zq za zb) m (fun i=>M.Pk.mk (pk i) (ps i) (pa i) (pb i) (pc i) (pd i)) f=(0:Int)∧M.Gd.stA (M.Gd.mk w ht s v0 v1 d0 d1 r) x (M.Sc.mk zk zc zq za zb) m (fun i=>M.Pk.mk (pk i) (ps i) (pa i) (pb i) (pc i) (pd i)) f=true then M.Gd.prN (M.Gd.mk w ht s v0 v1 d0 d1 r) x (M.Sc.mk zk zc zq za zb) m (fun i=>M.Pk.mk (pk i) (ps i) (pa i) (pb i) (pc i) (pd i)) f m else (0:Nat)) (100000:Nat) (M.Gd.prR (M.Gd.mk w ht s v0 v1 d0 d1 r) x (M.Sc.mk zk zc zq za zb) m (fun i=>M.Pk.mk (pk i) (ps i) (pa i) (pb i) (pc i) (pd i)) f m) (∀ (k:Nat),k<m→pk k=pk k∧ps k=ps k∧pa k=pa k∧pb k=pb k∧pc k=pc k∧pd k=pd k) ((!decide ((70:Int)<(↑ns:Int)))=true) (∀ (k:Nat),k<ns→x k=x k)
theorem r7 (w ht s v0 v1 d0 d1 r:Int) (ns:Nat) (x:Nat→Int) (f:Int) (zk zc zq za zb:Int) (m:Nat) (pk ps pa pb pc pd:Nat→Int) (nl:Nat) (l:Nat→Int):V true [] [(17,pureE e17),(20,pureE e20),(30,pureE e30),(31,pureE e31),(32,pureE e32),(33,pureE e33),(34,pureE e34)] Try.f7 [0,1,2,3,4,5,6,8,12,13,14,15,16,17,18,19,32] [] [.agg [SI w,SI ht,SI s,SI v0,SI v1,SI d0,SI d1,SI r],.sl 1 ns (fun k=>[SI (x k)]),.agg [SI zk,SI zc,SI zq,SI za,SI zb],.sl 6 m (fun k=>[SI (pk k),SI (ps k),SI (pa k),SI (pb k),SI (pc k),SI (pd k)]),SI f,.sl 1 nl (fun k=>[SI (l k)])] (.bool true)=Rr7 w ht s v0 v1 d0 d1 r ns x f zk zc zq za zb m pk ps pa pb pc pd nl l:=by kernel_rfl
theorem br7 (w ht s v0 v1 d0 d1 r:Int) (ns:Nat) (x:Nat→Int) (f:Int) (zk zc zq za zb:Int) (m:Nat) (pk ps pa pb pc pd:Nat→Int) (nl:Nat) (l:Nat→Int)  : Rr7 w ht s v0 v1 d0 d1 r ns x f zk zc zq za zb m pk ps pa pb pc pd nl l:=by
 unfold Rr7
 dsimp -iota -proj -eta -zeta only
 by_cases h1:ns≤70
 ·have h1':¬ (70:Int)<ns:=by omega
  by_cases h2:m≤70
  ·have h2':¬ (70:Int)<m:=by omega
   by_cases h3:nl≤70
   ·have h3':¬ (70:Int)<nl:=by omega
    by_cases c:(M.Gd.ck1 (M.Gd.mk w ht s v0 v1 d0 d1 r) ns x (M.Sc.mk zk zc zq za zb) m (fun i=>M.Pk.mk (pk i) (ps i) (pa i) (pb i) (pc i) (pd i)) f)=0
    ·have hm:=(M.Gd.ck1_ok c).2.2.2.2.1
     have hle:=M.Gd.prN_le (g:=(M.Gd.mk w ht s v0 v1 d0 d1 r)) (x:=x) (s:=(M.Sc.mk zk zc zq za zb)) (P:=(fun i=>M.Pk.mk (pk i) (ps i) (pa i) (pb i) (pc i) (pd i))) (f:=f) (Nat.le_refl m)
     simp [h1,h2,h3,h1',h2',h3',c,same1_self]
     refine ⟨by omega,by omega,by omega,by omega,by omega,?_,by omega,by omega,by omega,by omega,by omega,by omega,by omega⟩
     split <;> omega
    ·simp [h1,h2,h3,h1',h2',h3',c,same1_self]
     omega
   ·have h3':(70:Int)<nl:=by omega
    simp [h1',h2',h3']
  ·have h2':(70:Int)<m:=by omega
   simp [h1',h2']
 ·have h1':(70:Int)<ns:=by omega
  simp [h1']
theorem s7:PureOK PP 7 e7:=by
 intro xs ps res h hp
 unfold e7 at h
 split at h
 ·rename_i w ht s v0 v1 d0 d1 r ns g_1 zk zc zq za zb m g_2 f nl g_3
  cases h
  simp only [AllP.cons] at hp
  obtain ⟨Hg_1,Hg_2,Hg_3,hp⟩:=hp
  exact Spec.args (enterH (Hold.of (r7 w ht s v0 v1 d0 d1 r ns (cI g_1 0) f zk zc zq za zb m (cI g_2 0) (cI g_2 1) (cI g_2 2) (cI g_2 3) (cI g_2 4) (cI g_2 5) nl (cI g_3 0)) (br7 w ht s v0 v1 d0 d1 r ns (cI g_1 0) f zk zc zq za zb m (cI g_2 0) (cI g_2 1) (cI g_2 2) (cI g_2 3) (cI g_2 4) (cI g_2 5) nl (cI g_3 0) )) (.nil) (.cons (pureE_ok s17) (.cons (pureE_ok s20) (.cons (pureE_ok s30) (.cons (pureE_ok s31) (.cons (pureE_ok s32) (.cons (pureE_ok s33) (.cons (pureE_ok s34) (.nil)))))))) (k:=7) (by kernel_rfl) (by kernel_rfl) (fun _=>.nil)) (.cons (.refl _) (.cons (.row Hg_1 fun _=>rfl) (.cons (.refl _) (.cons (.row Hg_2 fun _=>rfl) (.cons (.refl _) (.cons (.row Hg_3 fun _=>rfl) .nil))))))
 ·cases h
end Go.Proofs.Ytoncoofmijjgeaa.Sep
