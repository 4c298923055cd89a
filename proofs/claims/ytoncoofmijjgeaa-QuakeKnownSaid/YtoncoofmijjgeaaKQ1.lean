/-
  Texts of one seat, joined. No condition. (This text proves no statement by itself.)
-/
import Derived.Test.YtoncoofmijjgeaaKSep21
import Derived.Test.YtoncoofmijjgeaaKSo1
import Derived.Test.YtoncoofmijjgeaaChecked
import Derived.Lib.Strings
import Derived.Lib.Slices
import Derived.Lib.Small
import Derived.Lib.Walk
import Derived.Lib.BitFns
namespace Go.Proofs.Ytoncoofmijjgeaa.Sep
open Go
set_option linter.unusedVariables false
set_option linter.unusedSimpArgs false
def e117:List SV→Option (List Prop × SV)
 | [.int .i64 a]=>some ([],.bool false)
 | _=>none
def Rr117 (a:Int):Prop:=(!decide (a=a))=false
theorem r117 (a:Int):V true [] [] Try.f117 [0,2] [] [SI a] (.bool false)=Rr117 a:=by kernel_rfl
theorem br117 (a:Int)  : Rr117 a:=by
 unfold Rr117
 simp
theorem s117:PureOK PP 117 e117:=by
 intro xs ps res h hp
 unfold e117 at h
 split at h
 ·rename_i a
  cases h
  clear hp
  exact enterH (Hold.of (r117 a) (br117 a )) (.nil) (.nil) (k:=117) (by kernel_rfl) (by kernel_rfl) (fun _=>.nil)
 ·cases h
def e103:List SV→Option (List Prop × SV)
 | [.int .i64 a,.int .i64 b]=>some ([],SI (M.cmpI a b))
 | _=>none
def Rr103 (a b:Int):Prop:=(false=true→(false=true→(0:Int)=M.cmpI a b)∧(false=false→(-1:Int)=M.cmpI a b))∧(false=false→(false=true→(1:Int)=M.cmpI a b)∧(false=false→(decide (a<b)=true→(-1:Int)=M.cmpI a b)∧(decide (a<b)=false→(decide (b<a)=true→(1:Int)=M.cmpI a b)∧(decide (b<a)=false→(0:Int)=M.cmpI a b))))
theorem r103 (a b:Int):V true [] [(117,pureE e117)] Try.f103 [0,1,4,5,6,11,12,13,16,19] [] [SI a,SI b] (SI (M.cmpI a b))=Rr103 a b:=by kernel_rfl
theorem br103 (a b:Int)  : Rr103 a b:=by
 unfold Rr103
 unfold M.cmpI
 by_cases h1:a<b
 ·simp [h1]
 ·by_cases h2:b<a <;> simp [h1,h2]
theorem s103:PureOK PP 103 e103:=by
 intro xs ps res h hp
 unfold e103 at h
 split at h
 ·rename_i a b
  cases h
  clear hp
  exact enterH (Hold.of (r103 a b) (br103 a b )) (.nil) (.cons (pureE_ok s117) (.nil)) (k:=103) (by kernel_rfl) (by kernel_rfl) (fun _=>.nil)
 ·cases h
def e102:List SV→Option (List Prop × SV)
 | [.agg [.int .i64 a,.int .i64 b],.agg [.int .i64 c,.int .i64 d]]=>some ([],SI (M.cmpI a c))
 | _=>none
def Rr102 (a b c d:Int):Prop:=M.cmpI a c=M.cmpI a c
theorem r102 (a b c d:Int):V true [] [(103,pureE e103)] Try.f102 [0,1,2,3,4] [] [.agg [SI a,SI b],.agg [SI c,SI d]] (SI (M.cmpI a c))=Rr102 a b c d:=by kernel_rfl
theorem br102 (a b c d:Int)  : Rr102 a b c d:=by
 unfold Rr102
 simp
theorem s102:PureOK PP 102 e102:=by
 intro xs ps res h hp
 unfold e102 at h
 split at h
 ·rename_i a b c d
  cases h
  clear hp
  exact enterH (Hold.of (r102 a b c d) (br102 a b c d )) (.nil) (.cons (pureE_ok s103) (.nil)) (k:=102) (by kernel_rfl) (by kernel_rfl) (fun _=>.nil)
 ·cases h
--#def ROW(q) .row 2 m (fun k => [SI (q k).1, SI (q k).2])
def lp120b (n m a b i:Nat) (p0:Nat→Int × Int):LoopS where
 ι:=Nat
 β:=Unit
 pre:=fun j=>(a≤j∧j≤i∧i<b∧b≤n∧m=n∧n≤100000)∧M.insJ (fun z:Int × Int=>z.1) a j (M.mvJ i p0 (i-j))=M.insJ (fun z:Int × Int=>z.1) a i p0
 μ:=fun j=>j
 next:=fun j _ _ _=>j-1
 out:=fun _=>()
 early _:=false
 SA:=fun j=>[(0,.vec 0 2 0 n),(1,SI a),(2,SI b),(3,.fn 102 [] []),(8,SI i),(9,SI j)]
 SH:=fun j=>[(0,.row 2 m (fun k=>[SI (M.mvJ i p0 (i-j) k).1,SI (M.mvJ i p0 (i-j) k).2]))]
 n0:=1
 NA _:=[(0,.vec 0 2 0 n),(1,SI a),(2,SI b),(3,.fn 102 [] []),(8,SI i)]
 NH _:=[(0,.row 2 m (fun k=>[SI (M.insJ (fun z:Int × Int=>z.1) a i p0 k).1,SI (M.insJ (fun z:Int × Int=>z.1) a i p0 k).2]))]
 n1:=1
 RA _:=[]
 RH _:=[]
def Rq120b (n m a b i:Nat) (p0:Nat→Int × Int) (j:Nat):Prop:=(fun (z7 z8:Int) (z6 z9:Nat)=>(fun (z1:Int) (z2:Nat) (z0:Prop)=>(fun (z3:Nat) (z5:Prop)=>(fun (z4:Bool)=>z5∧z5∧(z0→(0:Int)≤z7)∧(z0→z7<z8)∧z5∧(z0→z2<m)∧z5∧(z0→R64 z1)∧z5∧z5∧(z0→(0:Int)≤z1)∧(z0→z1<z8)∧z5∧(z0→z3<m)∧z5∧z5∧z5∧z5∧z5∧(z4=true→R64 z1∧R64 z1∧(0:Int)≤z1∧z1<z8∧z3<m∧(0:Int)≤z7∧z7<z8∧z2<m∧(0:Int)≤z7∧z7<z8∧z2<m∧(0:Int)≤z1∧z1<z8∧z3<m∧R64 z1∧((a≤z6∧z6≤i∧i<b∧b≤n∧m=n∧n≤(100000:Nat))∧M.insJ (fun z=>z.1) a z6 (M.mvJ i p0 (i-z6))=M.insJ (fun z=>z.1) a i p0)∧z6<j∧()=()∧(0:Nat)=(0:Nat)∧n=n∧(↑a:Int)=(↑a:Int)∧(↑b:Int)=(↑b:Int)∧(↑i:Int)=(↑i:Int)∧z1=(↑z6:Int)∧m≤m∧(∀ (k:Nat),k<m→(bif decide (k=z3) then (M.mvJ i p0 z9 z2).1 else bif decide (k=z2) then (M.mvJ i p0 z9 z3).1 else (M.mvJ i p0 z9 k).1)=(M.mvJ i p0 (i-z6) k).1∧(bif decide (k=z3) then (M.mvJ i p0 z9 z2).2 else bif decide (k=z2) then (M.mvJ i p0 z9 z3).2 else (M.mvJ i p0 z9 k).2)=(M.mvJ i p0 (i-z6) k).2)∧True)∧(z4=false→false=false∧(0:Nat)=(0:Nat)∧n=n∧(↑a:Int)=(↑a:Int)∧(↑b:Int)=(↑b:Int)∧(↑i:Int)=(↑i:Int)∧m≤m∧(∀ (k:Nat),k<m→(M.mvJ i p0 z9 k).1=(M.insJ (fun z=>z.1) a i p0 k).1∧(M.mvJ i p0 z9 k).2=(M.insJ (fun z=>z.1) a i p0 k).2)∧True)) (bif decide ((↑a:Int)<z7) then decide (M.cmpI (M.mvJ i p0 z9 z2).1 (M.mvJ i p0 z9 z3).1<(0:Int)) else false)) ((0:Nat)+Int.toNat z1) (z0→z0)) (z7-(1:Int)) ((0:Nat)+Int.toNat z7) (decide ((↑a:Int)<z7)=true)) (↑j:Int) (↑n:Int) (j-(1:Nat)) (i-j)
theorem q120b (n m a b i:Nat) (p0:Nat→Int × Int) (j:Nat):VL true [] [(102,pureE e102)] YS.none Try.f120 1 [0,1,2,3,8,9,14,34] [] 2 (lp120b n m a b i p0) (j)=Rq120b n m a b i p0 j:=by kernel_rfl
theorem peq120b (n m a b i:Nat) (p0:Nat→Int × Int) (j:Nat):(lp120b n m a b i p0).pre (j)=((a≤j∧j≤i∧i<b∧b≤n∧m=n∧n≤(100000:Nat))∧M.insJ (fun z=>z.1) a j (M.mvJ i p0 (i-j))=M.insJ (fun z=>z.1) a i p0):=by kernel_rfl
theorem bq120b (n m a b i:Nat) (p0:Nat→Int × Int) (j:Nat) (hp:(a≤j∧j≤i∧i<b∧b≤n∧m=n∧n≤(100000:Nat))∧M.insJ (fun z=>z.1) a j (M.mvJ i p0 (i-j))=M.insJ (fun z=>z.1) a i p0):Rq120b n m a b i p0 j:=by
 unfold Rq120b
 dsimp -iota -proj -eta -zeta only
 obtain ⟨⟨h1,h2,h3,h4,rfl,h5⟩,ho⟩:=id hp
 simp only [Int.toNat_natCast,Nat.zero_add,M.cmpI_lt]
 have r1:R64 ((j:Int)-1):=by unfold R64; omega
 simp only [r1]
 by_cases ha:a<j
 ·have e1:((j:Int)-1).toNat=j-1:=by omega
  have e2:(j:Int)-1=((j-1:Nat):Int):=by omega
  have e3:(1:Int)≤j:=by omega
  have e4:(j:Int)-1<m:=by omega
  have nx:=M.mvJ_next (p:=p0) (show 1≤j by omega) h2
  simp only [e1]
  by_cases hc:(M.mvJ i p0 (i-j) j).1<(M.mvJ i p0 (i-j) (j-1)).1
  ·have st:=M.insJ_step (key:=fun z:Int × Int=>z.1) ha hc
   simp only [M.sw_f (f:=Prod.fst),M.sw_f (f:=Prod.snd),nx]
   simp [ha,hc,e3,e4]
   rw [← st]
   repeat' apply And.intro
   all_goals first | omega | exact ho
  ·have st:=M.insJ_stop (key:=fun z:Int × Int=>z.1) (a:=a) (q:=M.mvJ i p0 (i-j)) (j:=j) (fun _=>hc)
   rw [st] at ho
   rw [← ho]
   simp [ha,hc,e3,e4]
   omega
 ·have st:=M.insJ_stop (key:=fun z:Int × Int=>z.1) (a:=a) (q:=M.mvJ i p0 (i-j)) (j:=j) (fun h=>absurd h ha)
  rw [st] at ho
  rw [← ho]
  simp [ha]
theorem t120b (n m a b i:Nat) (p0:Nat→Int × Int) {F:Fence} (hF:FOK F) (Y:YEnv PP YS.none):∀ Q A H nx,loopT false Try.f120.ntmps 1 (lp120b n m a b i p0) (fun _ _ _=>i) Q A H nx→WPS Y F Try.f120.ntmps 1 (.block 2 (blkAt 2 Try.f120)) Q A H nx :=
 loopW (E:=[]) (.nil) (O:=[(102,pureE e102)]) (.cons (pureE_ok s102) (.nil)) (ck:=true) (L:=[0,1,2,3,8,9,14,34]) (f:=Try.f120) (m:=1) (id:=2) (l:=(lp120b n m a b i p0)) (LI:=fun i=>[]) Y hF (by kernel_rfl) (fun _=>.nil) (by
  rintro j hp
  exact Hold.of (q120b n m a b i p0 j) (bq120b n m a b i p0 j ((peq120b n m a b i p0 j).mp hp)))
def lp120a (n m a b:Nat) (p0:Nat→Int × Int):LoopS where
 ι:=Nat
 β:=Unit
 pre:=fun t=>(a+1+t≤b∨t=0)∧b≤n∧m=n∧n≤100000
 μ:=fun t=>b-(a+1+t)
 next:=fun t _ _ _=>t+1
 out:=fun _=>()
 early _:=false
 SA:=fun t=>[(0,.vec 0 2 0 n),(1,SI a),(2,SI b),(3,.fn 102 [] []),(8,SI ((a+1+t:Nat):Int))]
 SH:=fun t=>[(0,.row 2 m (fun k=>[SI (M.insK (fun z:Int × Int=>z.1) a p0 t k).1,SI (M.insK (fun z:Int × Int=>z.1) a p0 t k).2]))]
 n0:=1
 NA _:=[(0,.vec 0 2 0 n),(1,SI a),(2,SI b),(3,.fn 102 [] [])]
 NH _:=[(0,.row 2 m (fun k=>[SI (M.insS (fun z:Int × Int=>z.1) a b p0 k).1,SI (M.insS (fun z:Int × Int=>z.1) a b p0 k).2]))]
 n1:=1
 RA _:=[]
 RH _:=[]
def Rq120a (n m a b:Nat) (p0:Nat→Int × Int) (t:Nat):Prop:=(fun (z2 z4:Int) (z0 z3 z5:Nat) (z6:Prop)=>(fun (z1:Int) (z7:Nat)=>(decide (z1<z2)=true→((a≤z0∧z0≤z0∧z0<b∧z6)∧M.insJ (fun z=>z.1) a z0 (M.mvJ z0 (M.insK (fun z=>z.1) a p0 t) (z0-z0))=M.insJ (fun z=>z.1) a z0 (M.insK (fun z=>z.1) a p0 t))∧(z5=z5∧n=n∧z4=z4∧z2=z2∧z1=z1∧z1=z1∧m≤m∧(∀ (k:Nat),k<m→(M.insK (fun z=>z.1) a p0 t k).1=(M.mvJ z0 (M.insK (fun z=>z.1) a p0 t) (z0-z0) k).1∧(M.insK (fun z=>z.1) a p0 t k).2=(M.mvJ z0 (M.insK (fun z=>z.1) a p0 t) (z0-z0) k).2)∧True)∧(false=false→R64 (z1+(1:Int))∧((z7≤b∨z3=z5)∧z6)∧b-z7<b-z0∧()=()∧z5=z5∧n=n∧z4=z4∧z2=z2∧z1+(1:Int)=(↑z7:Int)∧m≤m∧(∀ (k:Nat),k<m→(M.insJ (fun z=>z.1) a z0 (M.insK (fun z=>z.1) a p0 t) k).1=(M.insK (fun z=>z.1) a p0 z3 k).1∧(M.insJ (fun z=>z.1) a z0 (M.insK (fun z=>z.1) a p0 t) k).2=(M.insK (fun z=>z.1) a p0 z3 k).2)∧True)∧(false=true→false=true∧True))∧(decide (z1<z2)=false→false=false∧z5=z5∧n=n∧z4=z4∧z2=z2∧m≤m∧(∀ (k:Nat),k<m→(M.insK (fun z=>z.1) a p0 t k).1=(M.insS (fun z=>z.1) a b p0 k).1∧(M.insK (fun z=>z.1) a p0 t k).2=(M.insS (fun z=>z.1) a b p0 k).2)∧True)) (↑z0:Int) (a+(1:Nat)+z3)) (↑b:Int) (↑a:Int) (a+(1:Nat)+t) (t+(1:Nat)) (0:Nat) (b≤n∧m=n∧n≤(100000:Nat))
theorem q120a (n m a b:Nat) (p0:Nat→Int × Int) (t:Nat):VL true [] [] YS.none Try.f120 1 [0,1,2,3,8,9,14,34] [(2,loopT false Try.f120.ntmps 1 (lp120b n m a b (a+1+t) (M.insK (fun z:Int × Int=>z.1) a p0 t)) (fun _ _ _=>(a+1+t)))] 0 (lp120a n m a b p0) (t)=Rq120a n m a b p0 t:=by kernel_rfl
theorem peq120a (n m a b:Nat) (p0:Nat→Int × Int) (t:Nat):(lp120a n m a b p0).pre (t)=((a+(1:Nat)+t≤b∨t=(0:Nat))∧b≤n∧m=n∧n≤(100000:Nat)):=by kernel_rfl
theorem bq120a (n m a b:Nat) (p0:Nat→Int × Int) (t:Nat) (hp:(a+(1:Nat)+t≤b∨t=(0:Nat))∧b≤n∧m=n∧n≤(100000:Nat)):Rq120a n m a b p0 t:=by
 unfold Rq120a
 dsimp -iota -proj -eta -zeta only
 obtain ⟨h1,h2,rfl,h4⟩:=id hp
 have e0:M.mvJ (a+1+t) (M.insK (fun z:Int × Int=>z.1) a p0 t) (a+1+t-(a+1+t))=M.insK (fun z:Int × Int=>z.1) a p0 t:=by rw [Nat.sub_self]; rfl
 have e1:M.insK (fun z:Int × Int=>z.1) a p0 (t+1)=M.insJ (fun z:Int × Int=>z.1) a (a+1+t) (M.insK (fun z:Int × Int=>z.1) a p0 t):=rfl
 have e2:=M.insS_K (key:=fun z:Int × Int=>z.1) (a:=a) (b:=b) (p:=p0)
 rw [e0,e1]
 by_cases hlt:a+1+t<b
 ·have hlt':(a:Int)+1+t<b:=by omega
  have r1:R64 ((a:Int)+1+t+1):=by unfold R64; omega
  simp [hlt',r1]
  omega
 ·have hlt':¬ (a:Int)+1+t<b:=by omega
  have e3:b-(a+1)=t:=by omega
  rw [e2,e3]
  simp [hlt']
theorem t120a (n m a b:Nat) (p0:Nat→Int × Int) {F:Fence} (hF:FOK F) (Y:YEnv PP YS.none):∀ Q A H nx,loopT false Try.f120.ntmps 1 (lp120a n m a b p0) (fun _ _ _=>(0:Nat)) Q A H nx→WPS Y F Try.f120.ntmps 1 (.block 0 (blkAt 0 Try.f120)) Q A H nx :=
 loopW (E:=[]) (.nil) (O:=[]) (.nil) (ck:=true) (L:=[0,1,2,3,8,9,14,34]) (f:=Try.f120) (m:=1) (id:=0) (l:=(lp120a n m a b p0)) (LI:=fun (t:Nat)=>[(2,loopT false Try.f120.ntmps 1 (lp120b n m a b (a+1+t) (M.insK (fun z:Int × Int=>z.1) a p0 t)) (fun _ _ _=>(a+1+t)))]) Y hF (by kernel_rfl) (fun (t:Nat)=>.cons (by kernel_rfl) (t120b n m a b (a+1+t) (M.insK (fun z:Int × Int=>z.1) a p0 t) hF Y) (.nil)) (by
  rintro t hp
  exact Hold.of (q120a n m a b p0 t) (bq120a n m a b p0 t ((peq120a n m a b p0 t).mp hp)))
def e120:EntB
 | [.vec 0 2 0 n,.int .i64 a,.int .i64 b,.fn 102 [] []],[.row 2 m g_1]=>some ([Row 2 m g_1,m=n,n≤100000,0≤a,a≤b,b≤n],.tup [],[.row 2 m (fun k=>[SI ((M.insS (fun z:Int × Int=>z.1) a.toNat b.toNat (pr2 g_1)) k).1,SI ((M.insS (fun z:Int × Int=>z.1) a.toNat b.toNat (pr2 g_1)) k).2])])
 | _,_=>none
def Rr120 (n m:Nat) (a b:Int) (p:Nat→Int × Int):Prop:=(fun (z0 z1 z2:Nat)=>R64 (a+(1:Int))∧((z0+(1:Nat)+z2≤z1∨z2=z2)∧z1≤n∧m=n∧n≤(100000:Nat))∧(z2=z2∧n=n∧a=(↑z0:Int)∧b=(↑z1:Int)∧a+(1:Int)=(↑(z0+(1:Nat)+z2):Int)∧m≤m∧(∀ (k:Nat),k<m→(p k).1=(M.insK (fun z=>z.1) z0 p z2 k).1∧(p k).2=(M.insK (fun z=>z.1) z0 p z2 k).2)∧True)∧(false=false→(m≤m∧∀ (k:Nat),k<m→(M.insS (fun z=>z.1) z0 z1 p k).1=(M.insS (fun z=>z.1) z0 z1 p k).1∧(M.insS (fun z=>z.1) z0 z1 p k).2=(M.insS (fun z=>z.1) z0 z1 p k).2)∧True)∧(false=true→False)) (Int.toNat a) (Int.toNat b) (0:Nat)
theorem r120 (n m:Nat) (a b:Int) (p:Nat→Int × Int):VB true [] [] Try.f120 [0,1,2,3,8,9,14,34] [(0,loopT false Try.f120.ntmps 1 (lp120a n m a.toNat b.toNat p) (fun _ _ _=>(0:Nat)))] [.vec 0 2 0 n,SI a,SI b,.fn 102 [] []] [.row 2 m (fun k=>[SI (p k).1,SI (p k).2])] (.tup []) [.row 2 m (fun k=>[SI ((M.insS (fun z:Int × Int=>z.1) a.toNat b.toNat p) k).1,SI ((M.insS (fun z:Int × Int=>z.1) a.toNat b.toNat p) k).2])]=Rr120 n m a b p:=by kernel_rfl
theorem br120 (n m:Nat) (a b:Int) (p:Nat→Int × Int) (hp:(m=n)∧(n≤100000)∧(0≤a)∧(a≤b)∧(b≤n)∧AllP []):Rr120 n m a b p:=by
 unfold Rr120
 dsimp -iota -proj -eta -zeta only
 obtain ⟨rfl,h2,h3,h4,h5,-⟩:=id hp
 have r1:R64 (a+1):=by unfold R64; omega
 simp [r1,M.insK]
 omega
theorem s120:SpecOK PP 120 e120:=by
 intro xs Hs ps res Hs1 h hp
 unfold e120 at h
 split at h
 ·rename_i n a b m g_1
  cases h
  simp only [AllP.cons] at hp
  obtain ⟨Hg_1,hp⟩:=hp
  exact Spec.blocks (enterBH (Hold.of (r120 n m a b (pr2 g_1)) (br120 n m a b (pr2 g_1) hp)) (.nil) (.nil) (k:=120) (by kernel_rfl) (by kernel_rfl) rfl (fun Y=>.cons (by kernel_rfl) (t120a n m a.toNat b.toNat (pr2 g_1) FOK.wide Y) (.nil))) (.row Hg_1 (fun _=>rfl) .nil)
 ·cases h
def lp130 (n m lo hi first:Nat) (p0:Nat→Int × Int):LoopS where
 ι:=Nat × (Nat→Int × Int)
 β:=Bool × (Nat→Int × Int)
 pre:=fun s=>first+hi≤n∧m=n∧n≤100000∧s.1≤100000
 μ:=fun s=>hi-s.1
 next:=fun s _ _ _=>(M.sftC (fun z:Int × Int=>z.1) first hi s.1 s.2,M.sw (first+s.1) (first+M.sftC (fun z:Int × Int=>z.1) first hi s.1 s.2) s.2)
 out:=fun s=>(M.sftE (fun z:Int × Int=>z.1) first hi (hi-s.1) s.1 s.2,M.sft (fun z:Int × Int=>z.1) first hi (hi-s.1) s.1 s.2)
 early b:=b.1
 SA:=fun s=>[(0,.vec 0 2 0 n),(2,SI hi),(3,SI first),(4,.fn 102 [] []),(10,SI s.1)]
 SH:=fun s=>[(0,.row 2 m (fun k=>[SI (s.2 k).1,SI (s.2 k).2]))]
 n0:=1
 NA _:=[]
 NH b:=[(0,.row 2 m (fun k=>[SI (b.2 k).1,SI (b.2 k).2]))]
 n1:=1
 RA _:=[]
 RH b:=[(0,.row 2 m (fun k=>[SI (b.2 k).1,SI (b.2 k).2]))]
def Rq130 (n m lo hi first:Nat) (p0:Nat→Int × Int) (r:Nat) (p:Nat→Int × Int):Prop:=(fun (z15:Bool) (z0 z2 z13 z14 z18:Int) (z3:Nat) (z6:Prop)=>(fun (z8 z10 z17:Int) (z9 z16:Prop)=>(fun (z19 z22:Int) (z4 z7:Nat) (z1 z23:Prop)=>(fun (z11 z21:Bool) (z5:Nat) (z12:Prop)=>(fun (z20:Bool)=>R64 ((2:Int)*(↑r:Int))∧R64 z0∧(decide (z18≤z0)=true→z15=false∧z6)∧(decide (z18≤z0)=false→R64 z10∧z12∧z12∧(z1→R64 z17)∧z12∧z12∧(z1→z14≤z17)∧(z1→z17<z13)∧z12∧(z1→z7<m)∧z12∧z12∧(z1→R64 z17)∧z12∧(z1→R64 z22)∧z12∧z12∧(z1→z14≤z22)∧(z1→z22<z13)∧z12∧(z1→(0:Nat)+Int.toNat z22<m)∧z12∧z12∧z12∧z12∧z12∧(z11=true→R64 z10∧R64 z8∧z23∧z8<z13∧z4<m∧R64 z19∧z14≤z19∧z19<z13∧z5<m∧(z20=true→z15=true∧z6)∧(z20=false→R64 z8∧R64 z19∧R64 z19∧z14≤z19∧z19<z13∧z5<m∧R64 z8∧z23∧z8<z13∧z4<m∧z23∧z8<z13∧z4<m∧z14≤z19∧z19<z13∧z5<m∧z16∧hi-z3<hi-r∧z9∧(0:Nat)=(0:Nat)∧n=n∧z18=z18∧z2=z2∧z10=(↑z3:Int)∧m≤m∧(∀ (k:Nat),k<m→(bif decide (k=z5) then (p z4).1 else bif decide (k=z4) then (p z5).1 else (p k).1)=(M.sw (first+r) (first+z3) p k).1∧(bif decide (k=z5) then (p z4).2 else bif decide (k=z4) then (p z5).2 else (p k).2)=(M.sw (first+r) (first+z3) p k).2)∧True))∧(z11=false→R64 z8∧z23∧z8<z13∧z4<m∧R64 z17∧z14≤z17∧z17<z13∧z7<m∧(z21=true→z15=true∧z6)∧(z21=false→R64 z8∧R64 z17∧R64 z17∧z14≤z17∧z17<z13∧z7<m∧R64 z8∧z23∧z8<z13∧z4<m∧z23∧z8<z13∧z4<m∧z14≤z17∧z17<z13∧z7<m∧z16∧hi-z3<hi-r∧z9∧(0:Nat)=(0:Nat)∧n=n∧z18=z18∧z2=z2∧z0=(↑z3:Int)∧m≤m∧(∀ (k:Nat),k<m→(bif decide (k=z7) then (p z4).1 else bif decide (k=z4) then (p z7).1 else (p k).1)=(M.sw (first+r) (first+z3) p k).1∧(bif decide (k=z7) then (p z4).2 else bif decide (k=z4) then (p z7).2 else (p k).2)=(M.sw (first+r) (first+z3) p k).2)∧True)))) (!decide (M.cmpI (p z4).1 (p z5).1<z14))) (bif decide (z10<z18) then decide (M.cmpI (p z7).1 (p ((0:Nat)+Int.toNat z22)).1<z14) else false) (!decide (M.cmpI (p z4).1 (p z7).1<z14)) ((0:Nat)+Int.toNat z19) (z1→z1)) (z2+z10) (z17+(1:Int)) ((0:Nat)+Int.toNat z8) ((0:Nat)+Int.toNat z17) (decide (z10<z18)=true) (z14≤z8)) (z2+(↑r:Int)) (z0+(1:Int)) (z2+z0) ((M.sftE (fun z=>z.1) first hi (hi-z3) z3 (M.sw (first+r) (first+z3) p),M.sft (fun z=>z.1) first hi (hi-z3) z3 (M.sw (first+r) (first+z3) p))=(z15,M.sft (fun z=>z.1) first hi (hi-r) r p)) (first+hi≤n∧m=n∧n≤(100000:Nat)∧z3≤(100000:Nat))) (M.sftE (fun z=>z.1) first hi (hi-r) r p) ((2:Int)*(↑r:Int)+(1:Int)) (↑first:Int) (↑n:Int) (0:Int) (↑hi:Int) (M.sftC (fun z=>z.1) first hi r p) (m≤m∧(∀ (k:Nat),k<m→(p k).1=(M.sft (fun z=>z.1) first hi (hi-r) r p k).1∧(p k).2=(M.sft (fun z=>z.1) first hi (hi-r) r p k).2)∧True)
theorem q130 (n m lo hi first:Nat) (p0:Nat→Int × Int) (r:Nat) (p:Nat→Int × Int):VL true [] [(102,pureE e102)] YS.none Try.f130 1 [0,1,2,3,4,10,11,18,40,58] [] 0 (lp130 n m lo hi first p0) ((r,p))=Rq130 n m lo hi first p0 r p:=by kernel_rfl
theorem peq130 (n m lo hi first:Nat) (p0:Nat→Int × Int) (r:Nat) (p:Nat→Int × Int):(lp130 n m lo hi first p0).pre ((r,p))=(first+hi≤n∧m=n∧n≤(100000:Nat)∧r≤(100000:Nat)):=by kernel_rfl
theorem bq130 (n m lo hi first:Nat) (p0:Nat→Int × Int) (r:Nat) (p:Nat→Int × Int) (hp:first+hi≤n∧m=n∧n≤(100000:Nat)∧r≤(100000:Nat)):Rq130 n m lo hi first p0 r p:=by
 unfold Rq130
 dsimp -iota -proj -eta -zeta only
 obtain ⟨h1,rfl,h3,h4⟩:=id hp
 have hR:∀ z:Int,-4000000000000≤z→z≤4000000000000→R64 z:=fun z h1 h2=>by unfold R64; omega
 have r1:=hR (2*(r:Int)) (by omega) (by omega)
 have r2:=hR (2*(r:Int)+1) (by omega) (by omega)
 simp only [M.cmpI_lt,Nat.zero_add,r1,r2]
 by_cases hc:hi≤2*r+1
 ·obtain ⟨e1,e2⟩:=M.sft_end (key:=fun z:Int × Int=>z.1) (first:=first) (p:=p) hc
  have hc':(hi:Int)≤2*(r:Int)+1:=by omega
  rw [e1,e2]
  simp [hc']
 ·have hc':¬ (hi:Int)≤2*(r:Int)+1:=by omega
  have t1:((first:Int)+(2*(r:Int)+1)).toNat=first+(2*r+1):=by omega
  have t2:((first:Int)+(2*(r:Int)+1)+1).toNat=first+(2*r+2):=by omega
  have t3:((first:Int)+(2*(r:Int)+1+1)).toNat=first+(2*r+2):=by omega
  have t4:((first:Int)+(r:Int)).toNat=first+r:=by omega
  have r3:=hR (2*(r:Int)+1+1) (by omega) (by omega)
  have r4:=hR ((first:Int)+(2*(r:Int)+1)) (by omega) (by omega)
  have r5:=hR ((first:Int)+(2*(r:Int)+1)+1) (by omega) (by omega)
  have r6:=hR ((first:Int)+(2*(r:Int)+1+1)) (by omega) (by omega)
  have r7:=hR ((first:Int)+(r:Int)) (by omega) (by omega)
  have q1:(0:Int)≤first+(2*(r:Int)+1):=by omega
  have q2:(first:Int)+(2*(r:Int)+1)<m:=by omega
  have q3:(0:Int)≤first+(r:Int):=by omega
  have q4:(first:Int)+(r:Int)<m:=by omega
  have q5:first+(2*r+1)<m:=by omega
  have q6:first+r<m:=by omega
  simp only [t1,t2,t3,t4,r3,r4,r5,r6,r7,M.sw_f (f:=Prod.fst),M.sw_f (f:=Prod.snd)]
  have stp:=M.sft_step (key:=fun z:Int × Int=>z.1) (first:=first) (hi:=hi) (root:=r) (p:=p) (by omega)
  have stq:=M.sft_stop (key:=fun z:Int × Int=>z.1) (first:=first) (hi:=hi) (root:=r) (p:=p) (by omega)
  by_cases hg:2*r+2<hi∧(p (first+(2*r+1))).1<(p (first+(2*r+2))).1
  ·have hch:M.sftC (fun z:Int × Int=>z.1) first hi r p=2*r+2:=by unfold M.sftC; rw [if_pos hg]
   obtain ⟨g1,g2⟩:=hg
   have g1':2*(r:Int)+1+1<hi:=by omega
   have q7:(0:Int)≤first+(2*(r:Int)+1)+1:=by omega
   have q8:(first:Int)+(2*(r:Int)+1)+1<m:=by omega
   have q9:(0:Int)≤first+(2*(r:Int)+1+1):=by omega
   have q10:(first:Int)+(2*(r:Int)+1+1)<m:=by omega
   have q11:first+(2*r+2)<m:=by omega
   rw [hch] at stp stq ⊢
   by_cases hl:(p (first+r)).1<(p (first+(2*r+2))).1
   ·obtain ⟨e1,e2⟩:=stp hl
    rw [e1,e2]
    simp [hc',g1',g2,hl,q1,q2,q3,q4,q5,q6,q7,q8,q9,q10,q11]
    all_goals omega
   ·obtain ⟨e1,e2⟩:=stq hl
    rw [e1,e2]
    simp [hc',g1',g2,hl,q1,q2,q3,q4,q5,q6,q7,q8,q9,q10,q11]
    all_goals omega
  ·have hch:M.sftC (fun z:Int × Int=>z.1) first hi r p=2*r+1:=by unfold M.sftC; rw [if_neg hg]
   have hb:(bif decide (2*(r:Int)+1+1<hi) then decide ((p (first+(2*r+1))).1<(p (first+(2*r+2))).1) else false)=false:=by
    by_cases g1:2*(r:Int)+1+1<hi
    ·have:¬ (p (first+(2*r+1))).1<(p (first+(2*r+2))).1:=fun g2=>hg ⟨by omega,g2⟩
     simp [g1,this]
    ·simp [g1]
   have q7:2*(r:Int)+1+1<hi→(0:Int)≤first+(2*(r:Int)+1)+1:=fun _=>by omega
   have q8:2*(r:Int)+1+1<hi→(first:Int)+(2*(r:Int)+1)+1<m:=fun _=>by omega
   have q11:2*(r:Int)+1+1<hi→first+(2*r+2)<m:=fun _=>by omega
   rw [hch] at stp stq ⊢
   by_cases hl:(p (first+r)).1<(p (first+(2*r+1))).1
   ·obtain ⟨e1,e2⟩:=stp hl
    rw [e1,e2]
    simp only [hb]
    simp [hc',hl,q1,q2,q3,q4,q5,q6]
    all_goals omega
   ·obtain ⟨e1,e2⟩:=stq hl
    rw [e1,e2]
    simp only [hb]
    simp [hc',hl,q1,q2,q3,q4,q5,q6]
    all_goals omega
theorem t130 (n m lo hi first:Nat) (p0:Nat→Int × Int) {F:Fence} (hF:FOK F) (Y:YEnv PP YS.none):∀ Q A H nx,loopT false Try.f130.ntmps 1 (lp130 n m lo hi first p0) (fun _ _ _=>(lo,p0)) Q A H nx→WPS Y F Try.f130.ntmps 1 (.block 0 (blkAt 0 Try.f130)) Q A H nx :=
 loopW (E:=[]) (.nil) (O:=[(102,pureE e102)]) (.cons (pureE_ok s102) (.nil)) (ck:=true) (L:=[0,1,2,3,4,10,11,18,40,58]) (f:=Try.f130) (m:=1) (id:=0) (l:=(lp130 n m lo hi first p0)) (LI:=fun i=>[]) Y hF (by kernel_rfl) (fun _=>.nil) (by
  rintro ⟨r,p⟩ hp
  exact Hold.of (q130 n m lo hi first p0 r p) (bq130 n m lo hi first p0 r p ((peq130 n m lo hi first p0 r p).mp hp)))
def e130:EntB
 | [.vec 0 2 0 n,.int .i64 lo,.int .i64 hi,.int .i64 first,.fn 102 [] []],[.row 2 m g_1]=>some ([Row 2 m g_1,m=n,n≤100000,0≤lo,lo≤100000,0≤hi,0≤first,first+hi≤n],.tup [],[.row 2 m (fun k=>[SI ((M.sft (fun z:Int × Int=>z.1) first.toNat hi.toNat (hi.toNat-lo.toNat) lo.toNat (pr2 g_1)) k).1,SI ((M.sft (fun z:Int × Int=>z.1) first.toNat hi.toNat (hi.toNat-lo.toNat) lo.toNat (pr2 g_1)) k).2])])
 | _,_=>none
def Rr130 (n m:Nat) (lo hi first:Int) (p:Nat→Int × Int):Prop:=(fun (z1:Bool) (z0:Prop)=>(Int.toNat first+Int.toNat hi≤n∧m=n∧n≤(100000:Nat)∧Int.toNat lo≤(100000:Nat))∧((0:Nat)=(0:Nat)∧n=n∧hi=(↑(Int.toNat hi):Int)∧first=(↑(Int.toNat first):Int)∧lo=(↑(Int.toNat lo):Int)∧m≤m∧(∀ (k:Nat),k<m→(p k).1=(p k).1∧(p k).2=(p k).2)∧True)∧(z1=false→z0)∧(z1=true→z0)) (M.sftE (fun z=>z.1) (Int.toNat first) (Int.toNat hi) (Int.toNat hi-Int.toNat lo) (Int.toNat lo) p) ((m≤m∧∀ (k:Nat),k<m→(M.sft (fun z=>z.1) (Int.toNat first) (Int.toNat hi) (Int.toNat hi-Int.toNat lo) (Int.toNat lo) p k).1=(M.sft (fun z=>z.1) (Int.toNat first) (Int.toNat hi) (Int.toNat hi-Int.toNat lo) (Int.toNat lo) p k).1∧(M.sft (fun z=>z.1) (Int.toNat first) (Int.toNat hi) (Int.toNat hi-Int.toNat lo) (Int.toNat lo) p k).2=(M.sft (fun z=>z.1) (Int.toNat first) (Int.toNat hi) (Int.toNat hi-Int.toNat lo) (Int.toNat lo) p k).2)∧True)
theorem r130 (n m:Nat) (lo hi first:Int) (p:Nat→Int × Int):VB true [] [] Try.f130 [0,1,2,3,4,10,11,18,40,58] [(0,loopT false Try.f130.ntmps 1 (lp130 n m lo.toNat hi.toNat first.toNat p) (fun _ _ _=>(lo.toNat,p)))] [.vec 0 2 0 n,SI lo,SI hi,SI first,.fn 102 [] []] [.row 2 m (fun k=>[SI (p k).1,SI (p k).2])] (.tup []) [.row 2 m (fun k=>[SI ((M.sft (fun z:Int × Int=>z.1) first.toNat hi.toNat (hi.toNat-lo.toNat) lo.toNat p) k).1,SI ((M.sft (fun z:Int × Int=>z.1) first.toNat hi.toNat (hi.toNat-lo.toNat) lo.toNat p) k).2])]=Rr130 n m lo hi first p:=by kernel_rfl
theorem br130 (n m:Nat) (lo hi first:Int) (p:Nat→Int × Int) (hp:(m=n)∧(n≤100000)∧(0≤lo)∧(lo≤100000)∧(0≤hi)∧(0≤first)∧(first+hi≤n)∧AllP []):Rr130 n m lo hi first p:=by
 unfold Rr130
 dsimp -iota -proj -eta -zeta only
 obtain ⟨rfl,h2,h3,h4,h5,h6,h7,-⟩:=id hp
 simp
 omega
theorem s130:SpecOK PP 130 e130:=by
 intro xs Hs ps res Hs1 h hp
 unfold e130 at h
 split at h
 ·rename_i n lo hi first m g_1
  cases h
  simp only [AllP.cons] at hp
  obtain ⟨Hg_1,hp⟩:=hp
  exact Spec.blocks (enterBH (Hold.of (r130 n m lo hi first (pr2 g_1)) (br130 n m lo hi first (pr2 g_1) hp)) (.nil) (.nil) (k:=130) (by kernel_rfl) (by kernel_rfl) rfl (fun Y=>.cons (by kernel_rfl) (t130 n m lo.toNat hi.toNat first.toNat (pr2 g_1) FOK.wide Y) (.nil))) (.row Hg_1 (fun _=>rfl) .nil)
 ·cases h
def lp121a (n m a b:Nat) (hi0:Int) (p0:Nat→Int × Int):LoopS where
 ι:=Nat × (Nat→Int × Int)
 β:=Nat→Int × Int
 pre:=fun s=>s.1≤b-a∧(a≤b∧b≤n∧m=n∧n≤100000)
 μ:=fun s=>s.1
 next:=fun s _ _ _=>(s.1-1,M.sft (fun z:Int × Int=>z.1) a (b-a) (b-a-(s.1-1)) (s.1-1) s.2)
 out:=fun s=>M.hpB (fun z:Int × Int=>z.1) a (b-a) s.1 s.2
 early b:=false
 SA:=fun s=>[(0,.vec 0 2 0 n),(3,.fn 102 [] []),(8,SI a),(9,SI 0),(10,SI ((b:Int)-a)),(11,SI ((s.1:Int)-1))]
 SH:=fun s=>[(0,.row 2 m (fun k=>[SI (s.2 k).1,SI (s.2 k).2]))]
 n0:=1
 NA _:=[(0,.vec 0 2 0 n),(3,.fn 102 [] []),(8,SI a),(9,SI 0),(10,SI ((b:Int)-a))]
 NH b:=[(0,.row 2 m (fun k=>[SI (b k).1,SI (b k).2]))]
 n1:=1
 RA _:=[]
 RH _:=[]
def Rq121a (n m a b:Nat) (hi0:Int) (p0:Nat→Int × Int) (k:Nat) (p:Nat→Int × Int):Prop:=(fun (z1 z3 z4:Int) (z2 z5:Nat)=>(fun (z0:Int) (z7:Nat)=>(fun (z6:Nat)=>(decide (z4≤z1)=true→(∀ (k:Nat),k<m→(p k).1=(p k).1∧(p k).2=(p k).2)∧m=n∧n≤(100000:Nat)∧z4≤z1∧z1≤(100000:Int)∧z4≤z0∧z4≤z3∧z3+z0≤(↑n:Int)∧R64 (z1-(1:Int))∧(z2≤z5∧a≤b∧b≤n∧m=n∧n≤(100000:Nat))∧z2<k∧M.hpB (fun z=>z.1) a z5 z2 (M.sft (fun z=>z.1) a z5 (z5-z2) z2 p)=M.hpB (fun z=>z.1) a z5 k p∧(0:Nat)=(0:Nat)∧n=n∧z3=z3∧z4=z4∧z0=z0∧z1-(1:Int)=(↑z2:Int)-(1:Int)∧m≤m∧(∀ (k_1:Nat),k_1<m→(M.sft (fun z=>z.1) (Int.toNat z3) z6 (z6-z7) z7 p k_1).1=(M.sft (fun z=>z.1) a z5 (z5-z2) z2 p k_1).1∧(M.sft (fun z=>z.1) (Int.toNat z3) z6 (z6-z7) z7 p k_1).2=(M.sft (fun z=>z.1) a z5 (z5-z2) z2 p k_1).2)∧True)∧(decide (z4≤z1)=false→false=false∧(0:Nat)=(0:Nat)∧n=n∧z3=z3∧z4=z4∧z0=z0∧m≤m∧(∀ (k_1:Nat),k_1<m→(p k_1).1=(M.hpB (fun z=>z.1) a z5 k p k_1).1∧(p k_1).2=(M.hpB (fun z=>z.1) a z5 k p k_1).2)∧True)) (Int.toNat z0)) ((↑b:Int)-z3) (Int.toNat z1)) ((↑k:Int)-(1:Int)) (↑a:Int) (0:Int) (k-(1:Nat)) (b-a)
theorem q121a (n m a b:Nat) (hi0:Int) (p0:Nat→Int × Int) (k:Nat) (p:Nat→Int × Int):VL true [] [(130,specW e130)] YS.none Try.f121 1 [0,1,2,3,8,9,10,11,12,21,33] [] 0 (lp121a n m a b hi0 p0) ((k,p))=Rq121a n m a b hi0 p0 k p:=by kernel_rfl
theorem peq121a (n m a b:Nat) (hi0:Int) (p0:Nat→Int × Int) (k:Nat) (p:Nat→Int × Int):(lp121a n m a b hi0 p0).pre ((k,p))=(k≤b-a∧a≤b∧b≤n∧m=n∧n≤(100000:Nat)):=by kernel_rfl
theorem bq121a (n m a b:Nat) (hi0:Int) (p0:Nat→Int × Int) (k:Nat) (p:Nat→Int × Int) (hp:k≤b-a∧a≤b∧b≤n∧m=n∧n≤(100000:Nat)):Rq121a n m a b hi0 p0 k p:=by
 unfold Rq121a
 dsimp -iota -proj -eta -zeta only
 obtain ⟨h0,h1,h2,rfl,h3⟩:=id hp
 by_cases hk:k=0
 ·subst hk
  have c:¬ (0:Int)≤((0:Nat):Int)-1:=by omega
  simp [M.hpB]
 ·have c:(0:Int)≤(k:Int)-1:=by omega
  have e1:((k:Int)-1).toNat=k-1:=by omega
  have e2:((b:Int)-a).toNat=b-a:=by omega
  have e3:(a:Int).toNat=a:=by omega
  have e4:∀ q:Nat→Int × Int,M.hpB (fun z:Int × Int=>z.1) a (b-a) k q=M.hpB (fun z:Int × Int=>z.1) a (b-a) (k-1) (M.sft (fun z:Int × Int=>z.1) a (b-a) (b-a-(k-1)) (k-1) q):=fun q=>by
   obtain ⟨j,rfl⟩ : ∃ j,k=j+1:=⟨k-1,by omega⟩
   rfl
  have r1:R64 ((k:Int)-1-1):=by unfold R64; omega
  simp only [e1,e2,e3,e4,r1]
  simp [c]
  all_goals omega
theorem t121a (n m a b:Nat) (hi0:Int) (p0:Nat→Int × Int) {F:Fence} (hF:FOK F) (Y:YEnv PP YS.none):∀ Q A H nx,loopT false Try.f121.ntmps 1 (lp121a n m a b hi0 p0) (fun _ _ _=>((b-a-1)/2+1,p0)) Q A H nx→WPS Y F Try.f121.ntmps 1 (.block 0 (blkAt 0 Try.f121)) Q A H nx :=
 loopW (E:=[]) (.nil) (O:=[(130,specW e130)]) (.cons (specW_ok s130) (.nil)) (ck:=true) (L:=[0,1,2,3,8,9,10,11,12,21,33]) (f:=Try.f121) (m:=1) (id:=0) (l:=(lp121a n m a b hi0 p0)) (LI:=fun i=>[]) Y hF (by kernel_rfl) (fun _=>.nil) (by
  rintro ⟨k,p⟩ hp
  exact Hold.of (q121a n m a b hi0 p0 k p) (bq121a n m a b hi0 p0 k p ((peq121a n m a b hi0 p0 k p).mp hp)))
def lp121b (n m a b:Nat) (p0:Nat→Int × Int):LoopS where
 ι:=Nat × (Nat→Int × Int)
 β:=Nat→Int × Int
 pre:=fun s=>s.1≤b-a∧(a≤b∧b≤n∧m=n∧n≤100000)
 μ:=fun s=>s.1
 next:=fun s _ _ _=>(s.1-1,M.sft (fun z:Int × Int=>z.1) a (s.1-1) (s.1-1) 0 (M.sw a (a+(s.1-1)) s.2))
 out:=fun s=>M.hpP (fun z:Int × Int=>z.1) a s.1 s.2
 early b:=false
 SA:=fun s=>[(0,.vec 0 2 0 n),(3,.fn 102 [] []),(8,SI a),(9,SI 0),(12,SI ((s.1:Int)-1))]
 SH:=fun s=>[(0,.row 2 m (fun k=>[SI (s.2 k).1,SI (s.2 k).2]))]
 n0:=1
 NA _:=[]
 NH b:=[(0,.row 2 m (fun k=>[SI (b k).1,SI (b k).2]))]
 n1:=1
 RA _:=[]
 RH _:=[]
def Rq121b (n m a b:Nat) (p0:Nat→Int × Int) (k:Nat) (p:Nat→Int × Int):Prop:=(fun (z4 z6 z7 z8:Int) (z5 z9:Nat) (z1:Nat→Int)=>(fun (z0:Int) (z2:Nat)=>(fun (z3:Nat)=>(decide (z6≤z4)=true→R64 z0∧R64 z0∧z6≤z0∧z0<z8∧z3<m∧z6≤z7∧z7<z8∧z2<m∧z6≤z7∧z7<z8∧z2<m∧z6≤z0∧z0<z8∧z3<m∧(∀ (k_1:Nat),k_1<m→((bif decide (k_1=z3) then (p z2).1 else bif decide (k_1=z2) then (p z3).1 else (p k_1).1)=bif decide (k_1=z3) then (p z2).1 else bif decide (k_1=z2) then (p z3).1 else (p k_1).1)∧(bif decide (k_1=z3) then (p z2).2 else bif decide (k_1=z2) then (p z3).2 else (p k_1).2)=cI (fun k_2=>[SV.int IntKind.i64 (bif decide (k_2=(0:Nat)+Int.toNat ((↑a:Int)+((↑k:Int)-(1:Int)))) then (p ((0:Nat)+Int.toNat (↑a:Int))).1 else bif decide (k_2=(0:Nat)+Int.toNat (↑a:Int)) then (p ((0:Nat)+Int.toNat ((↑a:Int)+((↑k:Int)-(1:Int))))).1 else (p k_2).1),SV.int IntKind.i64 (bif decide (k_2=(0:Nat)+Int.toNat ((↑a:Int)+((↑k:Int)-(1:Int)))) then (p ((0:Nat)+Int.toNat (↑a:Int))).2 else bif decide (k_2=(0:Nat)+Int.toNat (↑a:Int)) then (p ((0:Nat)+Int.toNat ((↑a:Int)+((↑k:Int)-(1:Int))))).2 else (p k_2).2)]) (z9+(1:Nat)) k_1)∧m=n∧n≤(100000:Nat)∧z6≤z6∧z6≤(100000:Int)∧z6≤z4∧z6≤z7∧z0≤z8∧R64 (z4-(1:Int))∧(z5≤b-a∧a≤b∧b≤n∧m=n∧n≤(100000:Nat))∧z5<k∧M.hpP (fun z=>z.1) a z5 (M.sft (fun z=>z.1) a z5 z5 z9 (M.sw a (a+z5) p))=M.hpP (fun z=>z.1) a k p∧z9=z9∧n=n∧z7=z7∧z6=z6∧z4-(1:Int)=(↑z5:Int)-(1:Int)∧m≤m∧(∀ (k_1:Nat),k_1<m→(M.sft (fun z=>z.1) (Int.toNat z7) (Int.toNat z4) (Int.toNat z4-Int.toNat z6) (Int.toNat z6) (fun k_2=>(bif decide (k_2=z3) then (p z2).1 else bif decide (k_2=z2) then (p z3).1 else (p k_2).1,z1 k_2)) k_1).1=(M.sft (fun z=>z.1) a z5 z5 z9 (M.sw a (a+z5) p) k_1).1∧(M.sft (fun z=>z.1) (Int.toNat z7) (Int.toNat z4) (Int.toNat z4-Int.toNat z6) (Int.toNat z6) (fun k_2=>(bif decide (k_2=z3) then (p z2).1 else bif decide (k_2=z2) then (p z3).1 else (p k_2).1,z1 k_2)) k_1).2=(M.sft (fun z=>z.1) a z5 z5 z9 (M.sw a (a+z5) p) k_1).2)∧True)∧(decide (z6≤z4)=false→false=false∧m≤m∧(∀ (k_1:Nat),k_1<m→(p k_1).1=(M.hpP (fun z=>z.1) a k p k_1).1∧(p k_1).2=(M.hpP (fun z=>z.1) a k p k_1).2)∧True)) (z9+Int.toNat z0)) (z7+z4) (z9+Int.toNat z7)) ((↑k:Int)-(1:Int)) (0:Int) (↑a:Int) (↑n:Int) (k-(1:Nat)) (0:Nat) (cI (fun k_3=>[SV.int IntKind.i64 (bif decide (k_3=(0:Nat)+Int.toNat ((↑a:Int)+((↑k:Int)-(1:Int)))) then (p ((0:Nat)+Int.toNat (↑a:Int))).1 else bif decide (k_3=(0:Nat)+Int.toNat (↑a:Int)) then (p ((0:Nat)+Int.toNat ((↑a:Int)+((↑k:Int)-(1:Int))))).1 else (p k_3).1),SV.int IntKind.i64 (bif decide (k_3=(0:Nat)+Int.toNat ((↑a:Int)+((↑k:Int)-(1:Int)))) then (p ((0:Nat)+Int.toNat (↑a:Int))).2 else bif decide (k_3=(0:Nat)+Int.toNat (↑a:Int)) then (p ((0:Nat)+Int.toNat ((↑a:Int)+((↑k:Int)-(1:Int))))).2 else (p k_3).2)]) (1:Nat))
theorem q121b (n m a b:Nat) (p0:Nat→Int × Int) (k:Nat) (p:Nat→Int × Int):VL true [] [(130,specW e130)] YS.none Try.f121 1 [0,1,2,3,8,9,10,11,12,21,33] [] 2 (lp121b n m a b p0) ((k,p))=Rq121b n m a b p0 k p:=by kernel_rfl
theorem peq121b (n m a b:Nat) (p0:Nat→Int × Int) (k:Nat) (p:Nat→Int × Int):(lp121b n m a b p0).pre ((k,p))=(k≤b-a∧a≤b∧b≤n∧m=n∧n≤(100000:Nat)):=by kernel_rfl
theorem bq121b (n m a b:Nat) (p0:Nat→Int × Int) (k:Nat) (p:Nat→Int × Int) (hp:k≤b-a∧a≤b∧b≤n∧m=n∧n≤(100000:Nat)):Rq121b n m a b p0 k p:=by
 unfold Rq121b
 dsimp -iota -proj -eta -zeta only
 obtain ⟨h0,h1,h2,rfl,h3⟩:=id hp
 by_cases hk:k=0
 ·subst hk
  have c:¬ (0:Int)≤((0:Nat):Int)-1:=by omega
  simp [M.hpP]
 ·have c:(0:Int)≤(k:Int)-1:=by omega
  have e1:((k:Int)-1).toNat=k-1:=by omega
  have e2:((a:Int)+((k:Int)-1)).toNat=a+(k-1):=by omega
  have e3:(a:Int).toNat=a:=by omega
  have e4:∀ q:Nat→Int × Int,M.hpP (fun z:Int × Int=>z.1) a k q=M.hpP (fun z:Int × Int=>z.1) a (k-1) (M.sft (fun z:Int × Int=>z.1) a (k-1) (k-1) 0 (M.sw a (a+(k-1)) q)):=fun q=>by
   obtain ⟨j,rfl⟩ : ∃ j,k=j+1:=⟨k-1,by omega⟩
   rfl
  have r1:R64 ((k:Int)-1-1):=by unfold R64; omega
  have r2:R64 ((a:Int)+((k:Int)-1)):=by unfold R64; omega
  simp only [e1,e2,e3,e4,r1,r2,Nat.zero_add,M.sw_f (f:=Prod.fst),M.sw_f (f:=Prod.snd)]
  simp [c,cI,asI]
  all_goals omega
theorem t121b (n m a b:Nat) (p0:Nat→Int × Int) {F:Fence} (hF:FOK F) (Y:YEnv PP YS.none):∀ Q A H nx,loopT false Try.f121.ntmps 1 (lp121b n m a b p0) (fun _ _ _=>(b-a,p0)) Q A H nx→WPS Y F Try.f121.ntmps 1 (.block 2 (blkAt 2 Try.f121)) Q A H nx :=
 loopW (E:=[]) (.nil) (O:=[(130,specW e130)]) (.cons (specW_ok s130) (.nil)) (ck:=true) (L:=[0,1,2,3,8,9,10,11,12,21,33]) (f:=Try.f121) (m:=1) (id:=2) (l:=(lp121b n m a b p0)) (LI:=fun i=>[]) Y hF (by kernel_rfl) (fun _=>.nil) (by
  rintro ⟨k,p⟩ hp
  exact Hold.of (q121b n m a b p0 k p) (bq121b n m a b p0 k p ((peq121b n m a b p0 k p).mp hp)))
def e121:EntB
 | [.vec 0 2 0 n,.int .i64 a,.int .i64 b,.fn 102 [] []],[.row 2 m g_1]=>some ([Row 2 m g_1,m=n,n≤100000,0≤a,a<b,b≤n],.tup [],[.row 2 m (fun k=>[SI ((M.hpS (fun z:Int × Int=>z.1) a.toNat b.toNat (pr2 g_1)) k).1,SI ((M.hpS (fun z:Int × Int=>z.1) a.toNat b.toNat (pr2 g_1)) k).2])])
 | _,_=>none
def Rr121 (n m:Nat) (a b:Int) (p:Nat→Int × Int):Prop:=(fun (z6:Int) (z2 z3:Nat)=>(fun (z5 z8:Int) (z0:Nat) (z4:Prop)=>(fun (z7:Int) (z1:Nat)=>R64 (b-a)∧R64 (b-a-z6)∧(2:Int)≠(0:Int)∧R64 z8∧(z1≤z0∧z4)∧((0:Nat)=(0:Nat)∧n=n∧a=z5∧(0:Int)=(0:Int)∧b-a=z7∧z8=(↑z1:Int)-z6∧m≤m∧(∀ (k:Nat),k<m→(p k).1=(p k).1∧(p k).2=(p k).2)∧True)∧(false=false→R64 (z7-z6)∧(z0≤z0∧z4)∧((0:Nat)=(0:Nat)∧n=n∧z5=z5∧(0:Int)=(0:Int)∧z7-z6=(↑z0:Int)-z6∧m≤m∧(∀ (k:Nat),k<m→(M.hpB (fun z=>z.1) z2 z0 z1 p k).1=(M.hpB (fun z=>z.1) z2 z0 z1 p k).1∧(M.hpB (fun z=>z.1) z2 z0 z1 p k).2=(M.hpB (fun z=>z.1) z2 z0 z1 p k).2)∧True)∧(false=false→(m≤m∧∀ (k:Nat),k<m→(M.hpP (fun z=>z.1) z2 z0 (M.hpB (fun z=>z.1) z2 z0 z1 p) k).1=(M.hpS (fun z=>z.1) z2 z3 p k).1∧(M.hpP (fun z=>z.1) z2 z0 (M.hpB (fun z=>z.1) z2 z0 z1 p) k).2=(M.hpS (fun z=>z.1) z2 z3 p k).2)∧True)∧(false=true→False))∧(false=true→False)) ((↑z3:Int)-z5) ((z0-(1:Nat))/(2:Nat)+(1:Nat))) (↑z2:Int) (Int.tdiv (b-a-z6) (2:Int)) (z3-z2) (z2≤z3∧z3≤n∧m=n∧n≤(100000:Nat))) (1:Int) (Int.toNat a) (Int.toNat b)
theorem r121 (n m:Nat) (a b:Int) (p:Nat→Int × Int):VB true [] [] Try.f121 [0,1,2,3,8,9,10,11,12,21,33] [(0,loopT false Try.f121.ntmps 1 (lp121a n m a.toNat b.toNat (b-a) p) (fun _ _ _=>((b.toNat-a.toNat-1)/2+1,p))),(2,loopT false Try.f121.ntmps 1 (lp121b n m a.toNat b.toNat (M.hpB (fun z:Int × Int=>z.1) a.toNat (b.toNat-a.toNat) ((b.toNat-a.toNat-1)/2+1) p)) (fun _ _ _=>(b.toNat-a.toNat,(M.hpB (fun z:Int × Int=>z.1) a.toNat (b.toNat-a.toNat) ((b.toNat-a.toNat-1)/2+1) p))))] [.vec 0 2 0 n,SI a,SI b,.fn 102 [] []] [.row 2 m (fun k=>[SI (p k).1,SI (p k).2])] (.tup []) [.row 2 m (fun k=>[SI ((M.hpS (fun z:Int × Int=>z.1) a.toNat b.toNat p) k).1,SI ((M.hpS (fun z:Int × Int=>z.1) a.toNat b.toNat p) k).2])]=Rr121 n m a b p:=by kernel_rfl
theorem br121 (n m:Nat) (a b:Int) (p:Nat→Int × Int) (hp:(m=n)∧(n≤100000)∧(0≤a)∧(a<b)∧(b≤n)∧AllP []):Rr121 n m a b p:=by
 unfold Rr121
 dsimp -iota -proj -eta -zeta only
 obtain ⟨rfl,h2,h3,h4,h5,-⟩:=id hp
 have e:Int.tdiv (b-a-1) 2=(b-a-1)/2:=Int.tdiv_eq_ediv_of_nonneg (by omega)
 rw [e]
 simp [M.hpS]
 unfold R64
 omega
theorem s121:SpecOK PP 121 e121:=by
 intro xs Hs ps res Hs1 h hp
 unfold e121 at h
 split at h
 ·rename_i n a b m g_1
  cases h
  simp only [AllP.cons] at hp
  obtain ⟨Hg_1,hp⟩:=hp
  exact Spec.blocks (enterBH (Hold.of (r121 n m a b (pr2 g_1)) (br121 n m a b (pr2 g_1) hp)) (.nil) (.nil) (k:=121) (by kernel_rfl) (by kernel_rfl) rfl (fun Y=>.cons (by kernel_rfl) (t121a n m a.toNat b.toNat (b-a) (pr2 g_1) FOK.wide Y) (.cons (by kernel_rfl) (t121b n m a.toNat b.toNat (M.hpB (fun z:Int × Int=>z.1) a.toNat (b.toNat-a.toNat) ((b.toNat-a.toNat-1)/2+1) (pr2 g_1)) FOK.wide Y) (.nil)))) (.row Hg_1 (fun _=>rfl) .nil)
 ·cases h
end Go.Proofs.Ytoncoofmijjgeaa.Sep
namespace Go.Proofs.Ytoncoofmijjgeaa.Sep
open Go
set_option linter.unusedVariables false
set_option linter.unusedSimpArgs false
def lp124 (n m a b:Nat) (p0:Nat→Int × Int):LoopS where
 ι:=Nat × Nat × (Nat→Int × Int)
 β:=Nat→Int × Int
 pre:=fun s=>a≤s.1∧s.2.1<b∧b≤n∧m=n∧n≤100000
 μ:=fun s=>s.2.1
 next:=fun s _ _ _=>(s.1+1,s.2.1-1,M.sw s.1 s.2.1 s.2.2)
 out:=fun s=>M.rvL (s.2.1-s.1) s.1 s.2.1 s.2.2
 early _:=false
 SA:=fun s=>[(0,.vec 0 2 0 n),(8,SI s.1),(9,SI s.2.1)]
 SH:=fun s=>[(0,.row 2 m (fun k=>[SI (s.2.2 k).1,SI (s.2.2 k).2]))]
 n0:=1
 NA _:=[]
 NH b:=[(0,.row 2 m (fun k=>[SI (b k).1,SI (b k).2]))]
 n1:=1
 RA _:=[]
 RH _:=[]
def Rq124 (n m a b:Nat) (p0:Nat→Int × Int) (i j:Nat) (p:Nat→Int × Int):Prop:=(fun (z2 z3 z5:Int) (z4:Nat)=>(fun (z0 z1:Nat)=>(decide (z2<z3)=true→(0:Int)≤z3∧z3<z5∧z0<m∧(0:Int)≤z2∧z2<z5∧z1<m∧(0:Int)≤z2∧z2<z5∧z1<m∧(0:Int)≤z3∧z3<z5∧z0<m∧R64 (z2+(1:Int))∧R64 (z3-(1:Int))∧(a≤i+z4∧j-z4<b∧b≤n∧m=n∧n≤(100000:Nat))∧j-z4<j∧M.rvL (j-z4-(i+z4)) (i+z4) (j-z4) (M.sw i j p)=M.rvL (j-i) i j p∧(0:Nat)=(0:Nat)∧n=n∧z2+(1:Int)=(↑(i+z4):Int)∧z3-(1:Int)=(↑(j-z4):Int)∧m≤m∧(∀ (k:Nat),k<m→(bif decide (k=z0) then (p z1).1 else bif decide (k=z1) then (p z0).1 else (p k).1)=(M.sw i j p k).1∧(bif decide (k=z0) then (p z1).2 else bif decide (k=z1) then (p z0).2 else (p k).2)=(M.sw i j p k).2)∧True)∧(decide (z2<z3)=false→false=false∧m≤m∧(∀ (k:Nat),k<m→(p k).1=(M.rvL (j-i) i j p k).1∧(p k).2=(M.rvL (j-i) i j p k).2)∧True)) ((0:Nat)+Int.toNat z3) ((0:Nat)+Int.toNat z2)) (↑i:Int) (↑j:Int) (↑n:Int) (1:Nat)
theorem q124 (n m a b:Nat) (p0:Nat→Int × Int) (i j:Nat) (p:Nat→Int × Int):VL true [] [] YS.none Try.f124 1 [0,1,2,8,9,15] [] 0 (lp124 n m a b p0) ((i,j,p))=Rq124 n m a b p0 i j p:=by kernel_rfl
theorem peq124 (n m a b:Nat) (p0:Nat→Int × Int) (i j:Nat) (p:Nat→Int × Int):(lp124 n m a b p0).pre ((i,j,p))=(a≤i∧j<b∧b≤n∧m=n∧n≤(100000:Nat)):=by kernel_rfl
theorem bq124 (n m a b:Nat) (p0:Nat→Int × Int) (i j:Nat) (p:Nat→Int × Int) (hp:a≤i∧j<b∧b≤n∧m=n∧n≤(100000:Nat)):Rq124 n m a b p0 i j p:=by
 unfold Rq124
 dsimp -iota -proj -eta -zeta only
 obtain ⟨h0,h1,h2,rfl,h3⟩:=id hp
 by_cases hk:i<j
 ·have e1:(j:Int)-1=((j-1:Nat):Int):=by omega
  have e2:=M.rvL_step (p:=p) hk (show j≤i+(j-i) by omega)
  have e3:=M.rvL_fuel (j-i-1) (j-1-(i+1)) (i+1) (j-1) (M.sw i j p) (by omega) (by omega)
  have r1:R64 ((i:Int)+1):=by unfold R64; omega
  have r2:R64 (((j-1:Nat):Int)):=by unfold R64; omega
  rw [e2,e3]
  simp only [e1,r1,r2,Nat.zero_add,Int.toNat_natCast,M.sw_f (f:=Prod.fst),M.sw_f (f:=Prod.snd)]
  simp [hk]
  all_goals omega
 ·have e2:=M.rvL_stop (f:=j-i) (p:=p) hk
  rw [e2]
  simp [hk]
theorem t124 (n m a b:Nat) (p0:Nat→Int × Int) {F:Fence} (hF:FOK F) (Y:YEnv PP YS.none):∀ Q A H nx,loopT false Try.f124.ntmps 1 (lp124 n m a b p0) (fun _ _ _=>(a,b-1,p0)) Q A H nx→WPS Y F Try.f124.ntmps 1 (.block 0 (blkAt 0 Try.f124)) Q A H nx :=
 loopW (E:=[]) (.nil) (O:=[]) (.nil) (ck:=true) (L:=[0,1,2,8,9,15]) (f:=Try.f124) (m:=1) (id:=0) (l:=(lp124 n m a b p0)) (LI:=fun i=>[]) Y hF (by kernel_rfl) (fun _=>.nil) (by
  rintro ⟨i,j,p⟩ hp
  exact Hold.of (q124 n m a b p0 i j p) (bq124 n m a b p0 i j p ((peq124 n m a b p0 i j p).mp hp)))
def e124:EntB
 | [.vec 0 2 0 n,.int .i64 a,.int .i64 b,.fn 102 [] []],[.row 2 m g_1]=>some ([Row 2 m g_1,m=n,n≤100000,0≤a,a<b,b≤n],.tup [],[.row 2 m (fun k=>[SI ((M.rvL (b.toNat-a.toNat) a.toNat (b.toNat-1) (pr2 g_1)) k).1,SI ((M.rvL (b.toNat-a.toNat) a.toNat (b.toNat-1) (pr2 g_1)) k).2])])
 | _,_=>none
def Rr124 (n m:Nat) (a b:Int) (p:Nat→Int × Int):Prop:=(fun (z0 z1:Nat)=>R64 (b-(1:Int))∧(z1≤z1∧z0<Int.toNat b∧Int.toNat b≤n∧m=n∧n≤(100000:Nat))∧((0:Nat)=(0:Nat)∧n=n∧a=(↑z1:Int)∧b-(1:Int)=(↑z0:Int)∧m≤m∧(∀ (k:Nat),k<m→(p k).1=(p k).1∧(p k).2=(p k).2)∧True)∧(false=false→(m≤m∧∀ (k:Nat),k<m→(M.rvL (z0-z1) z1 z0 p k).1=(M.rvL (Int.toNat b-z1) z1 z0 p k).1∧(M.rvL (z0-z1) z1 z0 p k).2=(M.rvL (Int.toNat b-z1) z1 z0 p k).2)∧True)∧(false=true→False)) (Int.toNat b-(1:Nat)) (Int.toNat a)
theorem r124 (n m:Nat) (a b:Int) (p:Nat→Int × Int):VB true [] [] Try.f124 [0,1,2,8,9,15] [(0,loopT false Try.f124.ntmps 1 (lp124 n m a.toNat b.toNat p) (fun _ _ _=>(a.toNat,b.toNat-1,p)))] [.vec 0 2 0 n,SI a,SI b,.fn 102 [] []] [.row 2 m (fun k=>[SI (p k).1,SI (p k).2])] (.tup []) [.row 2 m (fun k=>[SI ((M.rvL (b.toNat-a.toNat) a.toNat (b.toNat-1) p) k).1,SI ((M.rvL (b.toNat-a.toNat) a.toNat (b.toNat-1) p) k).2])]=Rr124 n m a b p:=by kernel_rfl
theorem br124 (n m:Nat) (a b:Int) (p:Nat→Int × Int) (hp:(m=n)∧(n≤100000)∧(0≤a)∧(a<b)∧(b≤n)∧AllP []):Rr124 n m a b p:=by
 unfold Rr124
 dsimp -iota -proj -eta -zeta only
 obtain ⟨rfl,h2,h3,h4,h5,-⟩:=id hp
 have e:=M.rvL_fuel (b.toNat-1-a.toNat) (b.toNat-a.toNat) a.toNat (b.toNat-1) p (by omega) (by omega)
 rw [e]
 simp
 unfold R64
 omega
theorem s124:SpecOK PP 124 e124:=by
 intro xs Hs ps res Hs1 h hp
 unfold e124 at h
 split at h
 ·rename_i n a b m g_1
  cases h
  simp only [AllP.cons] at hp
  obtain ⟨Hg_1,hp⟩:=hp
  exact Spec.blocks (enterBH (Hold.of (r124 n m a b (pr2 g_1)) (br124 n m a b (pr2 g_1) hp)) (.nil) (.nil) (k:=124) (by kernel_rfl) (by kernel_rfl) rfl (fun Y=>.cons (by kernel_rfl) (t124 n m a.toNat b.toNat (pr2 g_1) FOK.wide Y) (.nil))) (.row Hg_1 (fun _=>rfl) .nil)
 ·cases h
def lp127u0 (n m a j i0:Nat) (v:Int × Int) (p:Nat→Int × Int):LoopS where
 ι:=Nat
 β:=Nat
 pre:=fun i=>a<i∧i≤j+1∧j<n∧p a=v∧m=n∧n≤100000
 μ:=fun i=>j+1-i
 next:=fun i _ _ _=>i+1
 out:=fun i=>M.pUp (fun k=>M.Ql v (p k)) (j+1) (j+1-i) i
 early _:=false
 SA:=fun i=>[(0,.vec 0 2 0 n),(1,SI a),(4,.fn 102 [] []),(12,SI i),(13,SI j)]
 SH:=fun _=>[(0,.row 2 m (fun k=>[SI (p k).1,SI (p k).2]))]
 n0:=1
 NA b:=[(0,.vec 0 2 0 n),(1,SI a),(4,.fn 102 [] []),(12,SI b),(13,SI j)]
 NH _:=[(0,.row 2 m (fun k=>[SI (p k).1,SI (p k).2]))]
 n1:=1
 RA _:=[]
 RH _:=[]
def Rq127u0 (n m a j i0:Nat) (v:Int × Int) (p:Nat→Int × Int) (i:Nat):Prop:=(fun (z6 z7:Int) (z3 z8:Nat) (z2:Prop)=>(fun (z1:Bool) (z5:Nat→Nat→Nat) (z0:Prop)=>(fun (z4:Prop)=>z4∧z4∧(z0→(0:Int)≤z7)∧(z0→z7<(↑n:Int))∧z4∧(z0→z8+Int.toNat z7<m)∧z4∧z4∧(z0→(0:Int)≤z6)∧(z0→z6<(↑n:Int))∧z4∧(z0→z8+Int.toNat z6<m)∧z4∧z4∧z4∧z4∧z4∧(z1=true→R64 (z7+(1:Int))∧(a<i+z3∧i+z3≤j+z3∧j<n∧p a=v∧m=n∧n≤(100000:Nat))∧j+z3-(i+z3)<j+z3-i∧z5 (j+z3-(i+z3)) (i+z3)=z5 (j+z3-i) i∧z8=z8∧n=n∧z6=z6∧z7+(1:Int)=(↑(i+z3):Int)∧z2)∧(z1=false→false=false∧z8=z8∧n=n∧z6=z6∧z7=(↑(z5 (j+z3-i) i):Int)∧z2)) (z0→z0)) (bif decide (z7≤(↑j:Int)) then decide (M.cmpI (p (z8+Int.toNat z7)).1 (p (z8+Int.toNat z6)).1<(0:Int)) else false) (M.pUp (fun k=>M.Ql v (p k)) (j+z3)) (decide (z7≤(↑j:Int))=true)) (↑a:Int) (↑i:Int) (1:Nat) (0:Nat) ((↑j:Int)=(↑j:Int)∧m≤m∧(∀ (k:Nat),k<m→(p k).1=(p k).1∧(p k).2=(p k).2)∧True)
theorem q127u0 (n m a j i0:Nat) (v:Int × Int) (p:Nat→Int × Int) (i:Nat):VL true [] [(102,pureE e102)] YS.none Try.f127 1 [0,1,2,3,4,10,11,12,13,47,66,71,120,139,144] [] 0 (lp127u0 n m a j i0 v p) (i)=Rq127u0 n m a j i0 v p i:=by kernel_rfl
theorem peq127u0 (n m a j i0:Nat) (v:Int × Int) (p:Nat→Int × Int) (i:Nat):(lp127u0 n m a j i0 v p).pre (i)=(a<i∧i≤j+(1:Nat)∧j<n∧p a=v∧m=n∧n≤(100000:Nat)):=by kernel_rfl
theorem bq127u0 (n m a j i0:Nat) (v:Int × Int) (p:Nat→Int × Int) (i:Nat) (hp:a<i∧i≤j+(1:Nat)∧j<n∧p a=v∧m=n∧n≤(100000:Nat)):Rq127u0 n m a j i0 v p i:=by
 unfold Rq127u0
 dsimp -iota -proj -eta -zeta only
 obtain ⟨h1,h2,h3,rfl,rfl,h5⟩:=id hp
 have ea:(a:Int).toNat=a:=by omega
 simp only [M.cmpI_lt,Nat.zero_add,Int.toNat_natCast]
 by_cases hl:i≤j
 ·have r1:R64 ((i:Int)+1):=by unfold R64; omega
  by_cases hc:(p i).1<(p a).1
  ·have e:=M.pUp_step (c:=fun k=>M.Ql (p a) (p k)) (n:=j+1) (i:=i) (by omega) (by simp [M.Ql,hc])
   rw [e]
   simp only [r1]
   simp [hl,hc]
   all_goals omega
  ·have e:=M.pUp_stop (c:=fun k=>M.Ql (p a) (p k)) (n:=j+1) (i:=i) (fun _=>by simp [M.Ql,hc])
   rw [e]
   simp [hl,hc]
   all_goals omega
 ·have e:=M.pUp_stop (c:=fun k=>M.Ql (p a) (p k)) (n:=j+1) (i:=i) (fun h=>absurd h (by omega))
  rw [e]
  simp [hl]
theorem t127u0 (n m a j i0:Nat) (v:Int × Int) (p:Nat→Int × Int) {F:Fence} (hF:FOK F) (Y:YEnv PP YS.none):∀ Q A H nx,loopT false Try.f127.ntmps 1 (lp127u0 n m a j i0 v p) (fun _ _ _=>i0) Q A H nx→WPS Y F Try.f127.ntmps 1 (.block 0 (blkAt 0 Try.f127)) Q A H nx :=
 loopW (E:=[]) (.nil) (O:=[(102,pureE e102)]) (.cons (pureE_ok s102) (.nil)) (ck:=true) (L:=[0,1,2,3,4,10,11,12,13,47,66,71,120,139,144]) (f:=Try.f127) (m:=1) (id:=0) (l:=(lp127u0 n m a j i0 v p)) (LI:=fun i=>[]) Y hF (by kernel_rfl) (fun _=>.nil) (by
  rintro i hp
  exact Hold.of (q127u0 n m a j i0 v p i) (bq127u0 n m a j i0 v p i ((peq127u0 n m a j i0 v p i).mp hp)))
def lp127d2 (n m a i j0:Nat) (v:Int × Int) (p:Nat→Int × Int):LoopS where
 ι:=Nat
 β:=Nat
 pre:=fun j=>a<i∧i≤j+1∧j<n∧p a=v∧m=n∧n≤100000
 μ:=fun j=>j
 next:=fun j _ _ _=>j-1
 out:=fun j=>M.pDn (fun k=>!M.Ql v (p k)) i (j+1-i) j
 early _:=false
 SA:=fun j=>[(0,.vec 0 2 0 n),(1,SI a),(4,.fn 102 [] []),(12,SI i),(13,SI j)]
 SH:=fun _=>[(0,.row 2 m (fun k=>[SI (p k).1,SI (p k).2]))]
 n0:=1
 NA b:=[(0,.vec 0 2 0 n),(1,SI a),(4,.fn 102 [] []),(12,SI i),(13,SI b)]
 NH _:=[(0,.row 2 m (fun k=>[SI (p k).1,SI (p k).2]))]
 n1:=1
 RA _:=[]
 RH _:=[]
def Rq127d2 (n m a i j0:Nat) (v:Int × Int) (p:Nat→Int × Int) (j:Nat):Prop:=(fun (z5 z7 z9:Int) (z4 z8:Nat) (z6:Nat→Nat→Nat) (z3:Prop)=>(fun (z1:Bool) (z0:Prop)=>(fun (z2:Prop)=>z2∧z2∧(z0→(0:Int)≤z7)∧(z0→z7<(↑n:Int))∧z2∧(z0→z8+Int.toNat z7<m)∧z2∧z2∧(z0→(0:Int)≤z5)∧(z0→z5<(↑n:Int))∧z2∧(z0→z8+Int.toNat z5<m)∧z2∧z2∧z2∧z2∧z2∧z2∧(z1=true→R64 (z7-(1:Int))∧(a<i∧i≤j-z4+z4∧j-z4<n∧p a=v∧m=n∧n≤(100000:Nat))∧j-z4<j∧z6 (j-z4+z4-i) (j-z4)=z6 (j+z4-i) j∧z8=z8∧n=n∧z5=z5∧z9=z9∧z7-(1:Int)=(↑(j-z4):Int)∧z3)∧(z1=false→false=false∧z8=z8∧n=n∧z5=z5∧z9=z9∧z7=(↑(z6 (j+z4-i) j):Int)∧z3)) (z0→z0)) (bif decide (z9≤z7) then !decide (M.cmpI (p (z8+Int.toNat z7)).1 (p (z8+Int.toNat z5)).1<(0:Int)) else false) (decide (z9≤z7)=true)) (↑a:Int) (↑j:Int) (↑i:Int) (1:Nat) (0:Nat) (M.pDn (fun k=>!M.Ql v (p k)) i) (m≤m∧(∀ (k:Nat),k<m→(p k).1=(p k).1∧(p k).2=(p k).2)∧True)
theorem q127d2 (n m a i j0:Nat) (v:Int × Int) (p:Nat→Int × Int) (j:Nat):VL true [] [(102,pureE e102)] YS.none Try.f127 1 [0,1,2,3,4,10,11,12,13,47,66,71,120,139,144] [] 2 (lp127d2 n m a i j0 v p) (j)=Rq127d2 n m a i j0 v p j:=by kernel_rfl
theorem peq127d2 (n m a i j0:Nat) (v:Int × Int) (p:Nat→Int × Int) (j:Nat):(lp127d2 n m a i j0 v p).pre (j)=(a<i∧i≤j+(1:Nat)∧j<n∧p a=v∧m=n∧n≤(100000:Nat)):=by kernel_rfl
theorem bq127d2 (n m a i j0:Nat) (v:Int × Int) (p:Nat→Int × Int) (j:Nat) (hp:a<i∧i≤j+(1:Nat)∧j<n∧p a=v∧m=n∧n≤(100000:Nat)):Rq127d2 n m a i j0 v p j:=by
 unfold Rq127d2
 dsimp -iota -proj -eta -zeta only
 obtain ⟨h1,h2,h3,rfl,rfl,h5⟩:=id hp
 have ea:(a:Int).toNat=a:=by omega
 simp only [M.cmpI_lt,Nat.zero_add,Int.toNat_natCast]
 by_cases hl:i≤j
 ·have r1:R64 ((j:Int)-1):=by unfold R64; omega
  have e1:(j:Int)-1=((j-1:Nat):Int):=by omega
  by_cases hc:(p j).1<(p a).1
  ·have e:=M.pDn_stop (c:=fun k=>!M.Ql (p a) (p k)) (i:=i) (j:=j) (fun _=>by simp [M.Ql,hc])
   rw [e]
   simp [hl,hc]
   all_goals omega
  ·have e:=M.pDn_step (c:=fun k=>!M.Ql (p a) (p k)) (i:=i) (j:=j) hl (by omega) (by simp [M.Ql,hc])
   rw [e]
   simp only [r1]
   simp [hl,hc]
   all_goals omega
 ·have e:=M.pDn_stop (c:=fun k=>!M.Ql (p a) (p k)) (i:=i) (j:=j) (fun h=>absurd h hl)
  rw [e]
  simp [hl]
theorem t127d2 (n m a i j0:Nat) (v:Int × Int) (p:Nat→Int × Int) {F:Fence} (hF:FOK F) (Y:YEnv PP YS.none):∀ Q A H nx,loopT false Try.f127.ntmps 1 (lp127d2 n m a i j0 v p) (fun _ _ _=>j0) Q A H nx→WPS Y F Try.f127.ntmps 1 (.block 2 (blkAt 2 Try.f127)) Q A H nx :=
 loopW (E:=[]) (.nil) (O:=[(102,pureE e102)]) (.cons (pureE_ok s102) (.nil)) (ck:=true) (L:=[0,1,2,3,4,10,11,12,13,47,66,71,120,139,144]) (f:=Try.f127) (m:=1) (id:=2) (l:=(lp127d2 n m a i j0 v p)) (LI:=fun i=>[]) Y hF (by kernel_rfl) (fun _=>.nil) (by
  rintro j hp
  exact Hold.of (q127d2 n m a i j0 v p j) (bq127d2 n m a i j0 v p j ((peq127d2 n m a i j0 v p j).mp hp)))
def lp127u6 (n m a j i0:Nat) (v:Int × Int) (p:Nat→Int × Int):LoopS where
 ι:=Nat
 β:=Nat
 pre:=fun i=>a<i∧i≤j+1∧j<n∧p a=v∧m=n∧n≤100000
 μ:=fun i=>j+1-i
 next:=fun i _ _ _=>i+1
 out:=fun i=>M.pUp (fun k=>M.Ql v (p k)) (j+1) (j+1-i) i
 early _:=false
 SA:=fun i=>[(0,.vec 0 2 0 n),(1,SI a),(4,.fn 102 [] []),(12,SI i),(13,SI j)]
 SH:=fun _=>[(0,.row 2 m (fun k=>[SI (p k).1,SI (p k).2]))]
 n0:=1
 NA b:=[(0,.vec 0 2 0 n),(1,SI a),(4,.fn 102 [] []),(12,SI b),(13,SI j)]
 NH _:=[(0,.row 2 m (fun k=>[SI (p k).1,SI (p k).2]))]
 n1:=1
 RA _:=[]
 RH _:=[]
def Rq127u6 (n m a j i0:Nat) (v:Int × Int) (p:Nat→Int × Int) (i:Nat):Prop:=(fun (z6 z7:Int) (z3 z8:Nat) (z2:Prop)=>(fun (z1:Bool) (z5:Nat→Nat→Nat) (z0:Prop)=>(fun (z4:Prop)=>z4∧z4∧(z0→(0:Int)≤z7)∧(z0→z7<(↑n:Int))∧z4∧(z0→z8+Int.toNat z7<m)∧z4∧z4∧(z0→(0:Int)≤z6)∧(z0→z6<(↑n:Int))∧z4∧(z0→z8+Int.toNat z6<m)∧z4∧z4∧z4∧z4∧z4∧(z1=true→R64 (z7+(1:Int))∧(a<i+z3∧i+z3≤j+z3∧j<n∧p a=v∧m=n∧n≤(100000:Nat))∧j+z3-(i+z3)<j+z3-i∧z5 (j+z3-(i+z3)) (i+z3)=z5 (j+z3-i) i∧z8=z8∧n=n∧z6=z6∧z7+(1:Int)=(↑(i+z3):Int)∧z2)∧(z1=false→false=false∧z8=z8∧n=n∧z6=z6∧z7=(↑(z5 (j+z3-i) i):Int)∧z2)) (z0→z0)) (bif decide (z7≤(↑j:Int)) then decide (M.cmpI (p (z8+Int.toNat z7)).1 (p (z8+Int.toNat z6)).1<(0:Int)) else false) (M.pUp (fun k=>M.Ql v (p k)) (j+z3)) (decide (z7≤(↑j:Int))=true)) (↑a:Int) (↑i:Int) (1:Nat) (0:Nat) ((↑j:Int)=(↑j:Int)∧m≤m∧(∀ (k:Nat),k<m→(p k).1=(p k).1∧(p k).2=(p k).2)∧True)
theorem q127u6 (n m a j i0:Nat) (v:Int × Int) (p:Nat→Int × Int) (i:Nat):VL true [] [(102,pureE e102)] YS.none Try.f127 1 [0,1,2,3,4,10,11,12,13,47,66,71,120,139,144] [] 6 (lp127u6 n m a j i0 v p) (i)=Rq127u6 n m a j i0 v p i:=by kernel_rfl
theorem peq127u6 (n m a j i0:Nat) (v:Int × Int) (p:Nat→Int × Int) (i:Nat):(lp127u6 n m a j i0 v p).pre (i)=(a<i∧i≤j+(1:Nat)∧j<n∧p a=v∧m=n∧n≤(100000:Nat)):=by kernel_rfl
theorem bq127u6 (n m a j i0:Nat) (v:Int × Int) (p:Nat→Int × Int) (i:Nat) (hp:a<i∧i≤j+(1:Nat)∧j<n∧p a=v∧m=n∧n≤(100000:Nat)):Rq127u6 n m a j i0 v p i:=by
 unfold Rq127u6
 dsimp -iota -proj -eta -zeta only
 obtain ⟨h1,h2,h3,rfl,rfl,h5⟩:=id hp
 have ea:(a:Int).toNat=a:=by omega
 simp only [M.cmpI_lt,Nat.zero_add,Int.toNat_natCast]
 by_cases hl:i≤j
 ·have r1:R64 ((i:Int)+1):=by unfold R64; omega
  by_cases hc:(p i).1<(p a).1
  ·have e:=M.pUp_step (c:=fun k=>M.Ql (p a) (p k)) (n:=j+1) (i:=i) (by omega) (by simp [M.Ql,hc])
   rw [e]
   simp only [r1]
   simp [hl,hc]
   all_goals omega
  ·have e:=M.pUp_stop (c:=fun k=>M.Ql (p a) (p k)) (n:=j+1) (i:=i) (fun _=>by simp [M.Ql,hc])
   rw [e]
   simp [hl,hc]
   all_goals omega
 ·have e:=M.pUp_stop (c:=fun k=>M.Ql (p a) (p k)) (n:=j+1) (i:=i) (fun h=>absurd h (by omega))
  rw [e]
  simp [hl]
theorem t127u6 (n m a j i0:Nat) (v:Int × Int) (p:Nat→Int × Int) {F:Fence} (hF:FOK F) (Y:YEnv PP YS.none):∀ Q A H nx,loopT false Try.f127.ntmps 1 (lp127u6 n m a j i0 v p) (fun _ _ _=>i0) Q A H nx→WPS Y F Try.f127.ntmps 1 (.block 6 (blkAt 6 Try.f127)) Q A H nx :=
 loopW (E:=[]) (.nil) (O:=[(102,pureE e102)]) (.cons (pureE_ok s102) (.nil)) (ck:=true) (L:=[0,1,2,3,4,10,11,12,13,47,66,71,120,139,144]) (f:=Try.f127) (m:=1) (id:=6) (l:=(lp127u6 n m a j i0 v p)) (LI:=fun i=>[]) Y hF (by kernel_rfl) (fun _=>.nil) (by
  rintro i hp
  exact Hold.of (q127u6 n m a j i0 v p i) (bq127u6 n m a j i0 v p i ((peq127u6 n m a j i0 v p i).mp hp)))
def lp127d8 (n m a i j0:Nat) (v:Int × Int) (p:Nat→Int × Int):LoopS where
 ι:=Nat
 β:=Nat
 pre:=fun j=>a<i∧i≤j+1∧j<n∧p a=v∧m=n∧n≤100000
 μ:=fun j=>j
 next:=fun j _ _ _=>j-1
 out:=fun j=>M.pDn (fun k=>!M.Ql v (p k)) i (j+1-i) j
 early _:=false
 SA:=fun j=>[(0,.vec 0 2 0 n),(1,SI a),(4,.fn 102 [] []),(12,SI i),(13,SI j)]
 SH:=fun _=>[(0,.row 2 m (fun k=>[SI (p k).1,SI (p k).2]))]
 n0:=1
 NA b:=[(0,.vec 0 2 0 n),(1,SI a),(4,.fn 102 [] []),(12,SI i),(13,SI b)]
 NH _:=[(0,.row 2 m (fun k=>[SI (p k).1,SI (p k).2]))]
 n1:=1
 RA _:=[]
 RH _:=[]
def Rq127d8 (n m a i j0:Nat) (v:Int × Int) (p:Nat→Int × Int) (j:Nat):Prop:=(fun (z5 z7 z9:Int) (z4 z8:Nat) (z6:Nat→Nat→Nat) (z3:Prop)=>(fun (z1:Bool) (z0:Prop)=>(fun (z2:Prop)=>z2∧z2∧(z0→(0:Int)≤z7)∧(z0→z7<(↑n:Int))∧z2∧(z0→z8+Int.toNat z7<m)∧z2∧z2∧(z0→(0:Int)≤z5)∧(z0→z5<(↑n:Int))∧z2∧(z0→z8+Int.toNat z5<m)∧z2∧z2∧z2∧z2∧z2∧z2∧(z1=true→R64 (z7-(1:Int))∧(a<i∧i≤j-z4+z4∧j-z4<n∧p a=v∧m=n∧n≤(100000:Nat))∧j-z4<j∧z6 (j-z4+z4-i) (j-z4)=z6 (j+z4-i) j∧z8=z8∧n=n∧z5=z5∧z9=z9∧z7-(1:Int)=(↑(j-z4):Int)∧z3)∧(z1=false→false=false∧z8=z8∧n=n∧z5=z5∧z9=z9∧z7=(↑(z6 (j+z4-i) j):Int)∧z3)) (z0→z0)) (bif decide (z9≤z7) then !decide (M.cmpI (p (z8+Int.toNat z7)).1 (p (z8+Int.toNat z5)).1<(0:Int)) else false) (decide (z9≤z7)=true)) (↑a:Int) (↑j:Int) (↑i:Int) (1:Nat) (0:Nat) (M.pDn (fun k=>!M.Ql v (p k)) i) (m≤m∧(∀ (k:Nat),k<m→(p k).1=(p k).1∧(p k).2=(p k).2)∧True)
theorem q127d8 (n m a i j0:Nat) (v:Int × Int) (p:Nat→Int × Int) (j:Nat):VL true [] [(102,pureE e102)] YS.none Try.f127 1 [0,1,2,3,4,10,11,12,13,47,66,71,120,139,144] [] 8 (lp127d8 n m a i j0 v p) (j)=Rq127d8 n m a i j0 v p j:=by kernel_rfl
theorem peq127d8 (n m a i j0:Nat) (v:Int × Int) (p:Nat→Int × Int) (j:Nat):(lp127d8 n m a i j0 v p).pre (j)=(a<i∧i≤j+(1:Nat)∧j<n∧p a=v∧m=n∧n≤(100000:Nat)):=by kernel_rfl
theorem bq127d8 (n m a i j0:Nat) (v:Int × Int) (p:Nat→Int × Int) (j:Nat) (hp:a<i∧i≤j+(1:Nat)∧j<n∧p a=v∧m=n∧n≤(100000:Nat)):Rq127d8 n m a i j0 v p j:=by
 unfold Rq127d8
 dsimp -iota -proj -eta -zeta only
 obtain ⟨h1,h2,h3,rfl,rfl,h5⟩:=id hp
 have ea:(a:Int).toNat=a:=by omega
 simp only [M.cmpI_lt,Nat.zero_add,Int.toNat_natCast]
 by_cases hl:i≤j
 ·have r1:R64 ((j:Int)-1):=by unfold R64; omega
  have e1:(j:Int)-1=((j-1:Nat):Int):=by omega
  by_cases hc:(p j).1<(p a).1
  ·have e:=M.pDn_stop (c:=fun k=>!M.Ql (p a) (p k)) (i:=i) (j:=j) (fun _=>by simp [M.Ql,hc])
   rw [e]
   simp [hl,hc]
   all_goals omega
  ·have e:=M.pDn_step (c:=fun k=>!M.Ql (p a) (p k)) (i:=i) (j:=j) hl (by omega) (by simp [M.Ql,hc])
   rw [e]
   simp only [r1]
   simp [hl,hc]
   all_goals omega
 ·have e:=M.pDn_stop (c:=fun k=>!M.Ql (p a) (p k)) (i:=i) (j:=j) (fun h=>absurd h hl)
  rw [e]
  simp [hl]
theorem t127d8 (n m a i j0:Nat) (v:Int × Int) (p:Nat→Int × Int) {F:Fence} (hF:FOK F) (Y:YEnv PP YS.none):∀ Q A H nx,loopT false Try.f127.ntmps 1 (lp127d8 n m a i j0 v p) (fun _ _ _=>j0) Q A H nx→WPS Y F Try.f127.ntmps 1 (.block 8 (blkAt 8 Try.f127)) Q A H nx :=
 loopW (E:=[]) (.nil) (O:=[(102,pureE e102)]) (.cons (pureE_ok s102) (.nil)) (ck:=true) (L:=[0,1,2,3,4,10,11,12,13,47,66,71,120,139,144]) (f:=Try.f127) (m:=1) (id:=8) (l:=(lp127d8 n m a i j0 v p)) (LI:=fun i=>[]) Y hF (by kernel_rfl) (fun _=>.nil) (by
  rintro j hp
  exact Hold.of (q127d8 n m a i j0 v p j) (bq127d8 n m a i j0 v p j ((peq127d8 n m a i j0 v p j).mp hp)))
def lp126u2 (n m a j i0:Nat) (v:Int × Int) (p:Nat→Int × Int):LoopS where
 ι:=Nat
 β:=Nat
 pre:=fun i=>a<i∧i≤j+1∧j<n∧p a=v∧m=n∧n≤100000
 μ:=fun i=>j+1-i
 next:=fun i _ _ _=>i+1
 out:=fun i=>M.pUp (fun k=>M.Qe v (p k)) (j+1) (j+1-i) i
 early _:=false
 SA:=fun i=>[(0,.vec 0 2 0 n),(1,SI a),(4,.fn 102 [] []),(11,SI i),(12,SI j)]
 SH:=fun _=>[(0,.row 2 m (fun k=>[SI (p k).1,SI (p k).2]))]
 n0:=1
 NA b:=[(0,.vec 0 2 0 n),(1,SI a),(4,.fn 102 [] []),(11,SI b),(12,SI j)]
 NH _:=[(0,.row 2 m (fun k=>[SI (p k).1,SI (p k).2]))]
 n1:=1
 RA _:=[]
 RH _:=[]
def Rq126u2 (n m a j i0:Nat) (v:Int × Int) (p:Nat→Int × Int) (i:Nat):Prop:=(fun (z6 z7:Int) (z4 z8:Nat) (z2:Prop)=>(fun (z1:Bool) (z5:Nat→Nat→Nat) (z0:Prop)=>(fun (z3:Prop)=>z3∧z3∧(z0→(0:Int)≤z6)∧(z0→z6<(↑n:Int))∧z3∧(z0→z8+Int.toNat z6<m)∧z3∧z3∧(z0→(0:Int)≤z7)∧(z0→z7<(↑n:Int))∧z3∧(z0→z8+Int.toNat z7<m)∧z3∧z3∧z3∧z3∧z3∧z3∧(z1=true→R64 (z7+(1:Int))∧(a<i+z4∧i+z4≤j+z4∧j<n∧p a=v∧m=n∧n≤(100000:Nat))∧j+z4-(i+z4)<j+z4-i∧z5 (j+z4-(i+z4)) (i+z4)=z5 (j+z4-i) i∧z8=z8∧n=n∧z6=z6∧z7+(1:Int)=(↑(i+z4):Int)∧z2)∧(z1=false→false=false∧z8=z8∧n=n∧z6=z6∧z7=(↑(z5 (j+z4-i) i):Int)∧z2)) (z0→z0)) (bif decide (z7≤(↑j:Int)) then !decide (M.cmpI (p (z8+Int.toNat z6)).1 (p (z8+Int.toNat z7)).1<(0:Int)) else false) (M.pUp (fun k=>M.Qe v (p k)) (j+z4)) (decide (z7≤(↑j:Int))=true)) (↑a:Int) (↑i:Int) (1:Nat) (0:Nat) ((↑j:Int)=(↑j:Int)∧m≤m∧(∀ (k:Nat),k<m→(p k).1=(p k).1∧(p k).2=(p k).2)∧True)
theorem q126u2 (n m a j i0:Nat) (v:Int × Int) (p:Nat→Int × Int) (i:Nat):VL true [] [(102,pureE e102)] YS.none Try.f126 1 [0,1,2,3,4,10,11,12,47,65,70] [] 2 (lp126u2 n m a j i0 v p) (i)=Rq126u2 n m a j i0 v p i:=by kernel_rfl
theorem peq126u2 (n m a j i0:Nat) (v:Int × Int) (p:Nat→Int × Int) (i:Nat):(lp126u2 n m a j i0 v p).pre (i)=(a<i∧i≤j+(1:Nat)∧j<n∧p a=v∧m=n∧n≤(100000:Nat)):=by kernel_rfl
theorem bq126u2 (n m a j i0:Nat) (v:Int × Int) (p:Nat→Int × Int) (i:Nat) (hp:a<i∧i≤j+(1:Nat)∧j<n∧p a=v∧m=n∧n≤(100000:Nat)):Rq126u2 n m a j i0 v p i:=by
 unfold Rq126u2
 dsimp -iota -proj -eta -zeta only
 obtain ⟨h1,h2,h3,rfl,rfl,h5⟩:=id hp
 have ea:(a:Int).toNat=a:=by omega
 simp only [M.cmpI_lt,Nat.zero_add,Int.toNat_natCast]
 by_cases hl:i≤j
 ·have r1:R64 ((i:Int)+1):=by unfold R64; omega
  by_cases hc:(p a).1<(p i).1
  ·have e:=M.pUp_stop (c:=fun k=>M.Qe (p a) (p k)) (n:=j+1) (i:=i) (fun _=>by simp [M.Qe,hc])
   rw [e]
   simp [hl,hc]
   all_goals omega
  ·have e:=M.pUp_step (c:=fun k=>M.Qe (p a) (p k)) (n:=j+1) (i:=i) (by omega) (by simp [M.Qe,hc])
   rw [e]
   simp only [r1]
   simp [hl,hc]
   all_goals omega
 ·have e:=M.pUp_stop (c:=fun k=>M.Qe (p a) (p k)) (n:=j+1) (i:=i) (fun h=>absurd h (by omega))
  rw [e]
  simp [hl]
theorem t126u2 (n m a j i0:Nat) (v:Int × Int) (p:Nat→Int × Int) {F:Fence} (hF:FOK F) (Y:YEnv PP YS.none):∀ Q A H nx,loopT false Try.f126.ntmps 1 (lp126u2 n m a j i0 v p) (fun _ _ _=>i0) Q A H nx→WPS Y F Try.f126.ntmps 1 (.block 2 (blkAt 2 Try.f126)) Q A H nx :=
 loopW (E:=[]) (.nil) (O:=[(102,pureE e102)]) (.cons (pureE_ok s102) (.nil)) (ck:=true) (L:=[0,1,2,3,4,10,11,12,47,65,70]) (f:=Try.f126) (m:=1) (id:=2) (l:=(lp126u2 n m a j i0 v p)) (LI:=fun i=>[]) Y hF (by kernel_rfl) (fun _=>.nil) (by
  rintro i hp
  exact Hold.of (q126u2 n m a j i0 v p i) (bq126u2 n m a j i0 v p i ((peq126u2 n m a j i0 v p i).mp hp)))
def lp126d4 (n m a i j0:Nat) (v:Int × Int) (p:Nat→Int × Int):LoopS where
 ι:=Nat
 β:=Nat
 pre:=fun j=>a<i∧i≤j+1∧j<n∧p a=v∧m=n∧n≤100000
 μ:=fun j=>j
 next:=fun j _ _ _=>j-1
 out:=fun j=>M.pDn (fun k=>!M.Qe v (p k)) i (j+1-i) j
 early _:=false
 SA:=fun j=>[(0,.vec 0 2 0 n),(1,SI a),(4,.fn 102 [] []),(11,SI i),(12,SI j)]
 SH:=fun _=>[(0,.row 2 m (fun k=>[SI (p k).1,SI (p k).2]))]
 n0:=1
 NA b:=[(0,.vec 0 2 0 n),(1,SI a),(4,.fn 102 [] []),(11,SI i),(12,SI b)]
 NH _:=[(0,.row 2 m (fun k=>[SI (p k).1,SI (p k).2]))]
 n1:=1
 RA _:=[]
 RH _:=[]
def Rq126d4 (n m a i j0:Nat) (v:Int × Int) (p:Nat→Int × Int) (j:Nat):Prop:=(fun (z5 z7 z9:Int) (z4 z8:Nat) (z6:Nat→Nat→Nat) (z3:Prop)=>(fun (z1:Bool) (z0:Prop)=>(fun (z2:Prop)=>z2∧z2∧(z0→(0:Int)≤z5)∧(z0→z5<(↑n:Int))∧z2∧(z0→z8+Int.toNat z5<m)∧z2∧z2∧(z0→(0:Int)≤z7)∧(z0→z7<(↑n:Int))∧z2∧(z0→z8+Int.toNat z7<m)∧z2∧z2∧z2∧z2∧z2∧(z1=true→R64 (z7-(1:Int))∧(a<i∧i≤j-z4+z4∧j-z4<n∧p a=v∧m=n∧n≤(100000:Nat))∧j-z4<j∧z6 (j-z4+z4-i) (j-z4)=z6 (j+z4-i) j∧z8=z8∧n=n∧z5=z5∧z9=z9∧z7-(1:Int)=(↑(j-z4):Int)∧z3)∧(z1=false→false=false∧z8=z8∧n=n∧z5=z5∧z9=z9∧z7=(↑(z6 (j+z4-i) j):Int)∧z3)) (z0→z0)) (bif decide (z9≤z7) then decide (M.cmpI (p (z8+Int.toNat z5)).1 (p (z8+Int.toNat z7)).1<(0:Int)) else false) (decide (z9≤z7)=true)) (↑a:Int) (↑j:Int) (↑i:Int) (1:Nat) (0:Nat) (M.pDn (fun k=>!M.Qe v (p k)) i) (m≤m∧(∀ (k:Nat),k<m→(p k).1=(p k).1∧(p k).2=(p k).2)∧True)
theorem q126d4 (n m a i j0:Nat) (v:Int × Int) (p:Nat→Int × Int) (j:Nat):VL true [] [(102,pureE e102)] YS.none Try.f126 1 [0,1,2,3,4,10,11,12,47,65,70] [] 4 (lp126d4 n m a i j0 v p) (j)=Rq126d4 n m a i j0 v p j:=by kernel_rfl
theorem peq126d4 (n m a i j0:Nat) (v:Int × Int) (p:Nat→Int × Int) (j:Nat):(lp126d4 n m a i j0 v p).pre (j)=(a<i∧i≤j+(1:Nat)∧j<n∧p a=v∧m=n∧n≤(100000:Nat)):=by kernel_rfl
theorem bq126d4 (n m a i j0:Nat) (v:Int × Int) (p:Nat→Int × Int) (j:Nat) (hp:a<i∧i≤j+(1:Nat)∧j<n∧p a=v∧m=n∧n≤(100000:Nat)):Rq126d4 n m a i j0 v p j:=by
 unfold Rq126d4
 dsimp -iota -proj -eta -zeta only
 obtain ⟨h1,h2,h3,rfl,rfl,h5⟩:=id hp
 have ea:(a:Int).toNat=a:=by omega
 simp only [M.cmpI_lt,Nat.zero_add,Int.toNat_natCast]
 by_cases hl:i≤j
 ·have r1:R64 ((j:Int)-1):=by unfold R64; omega
  have e1:(j:Int)-1=((j-1:Nat):Int):=by omega
  by_cases hc:(p a).1<(p j).1
  ·have e:=M.pDn_step (c:=fun k=>!M.Qe (p a) (p k)) (i:=i) (j:=j) hl (by omega) (by simp [M.Qe,hc])
   rw [e]
   simp only [r1]
   simp [hl,hc]
   all_goals omega
  ·have e:=M.pDn_stop (c:=fun k=>!M.Qe (p a) (p k)) (i:=i) (j:=j) (fun _=>by simp [M.Qe,hc])
   rw [e]
   simp [hl,hc]
   all_goals omega
 ·have e:=M.pDn_stop (c:=fun k=>!M.Qe (p a) (p k)) (i:=i) (j:=j) (fun h=>absurd h hl)
  rw [e]
  simp [hl]
theorem t126d4 (n m a i j0:Nat) (v:Int × Int) (p:Nat→Int × Int) {F:Fence} (hF:FOK F) (Y:YEnv PP YS.none):∀ Q A H nx,loopT false Try.f126.ntmps 1 (lp126d4 n m a i j0 v p) (fun _ _ _=>j0) Q A H nx→WPS Y F Try.f126.ntmps 1 (.block 4 (blkAt 4 Try.f126)) Q A H nx :=
 loopW (E:=[]) (.nil) (O:=[(102,pureE e102)]) (.cons (pureE_ok s102) (.nil)) (ck:=true) (L:=[0,1,2,3,4,10,11,12,47,65,70]) (f:=Try.f126) (m:=1) (id:=4) (l:=(lp126d4 n m a i j0 v p)) (LI:=fun i=>[]) Y hF (by kernel_rfl) (fun _=>.nil) (by
  rintro j hp
  exact Hold.of (q126d4 n m a i j0 v p j) (bq126d4 n m a i j0 v p j ((peq126d4 n m a i j0 v p j).mp hp)))
def lp127m (n m a b:Nat) (i0 j0:Nat) (v:Int × Int) (p0:Nat→Int × Int):LoopS where
 ι:=Nat × Nat × (Nat→Int × Int)
 β:=(Nat→Int × Int) × Nat × Nat
 pre:=fun s=>a<s.1∧s.1≤s.2.1+1∧s.2.1<n∧s.2.2 a=v∧m=n∧n≤100000
 μ:=fun s=>s.2.1+1-s.1
 next:=fun s _ _ _=>(M.plU (M.Ql v) s.1 s.2.1 s.2.2+1,M.plD (M.Ql v) s.1 s.2.1 s.2.2-1,M.sw (M.plU (M.Ql v) s.1 s.2.1 s.2.2) (M.plD (M.Ql v) s.1 s.2.1 s.2.2) s.2.2)
 out:=fun s=>M.pLq (M.Ql v) s.1 s.2.1 s.2.2
 early _:=false
 SA:=fun s=>[(0,.vec 0 2 0 n),(1,SI a),(4,.fn 102 [] []),(12,SI s.1),(13,SI s.2.1)]
 SH:=fun s=>[(0,.row 2 m (fun k=>[SI (s.2.2 k).1,SI (s.2.2 k).2]))]
 n0:=1
 NA b:=[(0,.vec 0 2 0 n),(1,SI a),(13,SI b.2.2)]
 NH b:=[(0,.row 2 m (fun k=>[SI (b.1 k).1,SI (b.1 k).2]))]
 n1:=1
 RA _:=[]
 RH _:=[]
def Rq127m (n m a b:Nat) (i0 j0:Nat) (v:Int × Int) (p0:Nat→Int × Int) (i j:Nat) (p:Nat→Int × Int):Prop:=(fun (z1 z3 z6:Nat) (z4 z8 z9 z10 z11:Prop)=>(fun (z0 z7:Int)=>(fun (z2 z5:Nat)=>(a<i∧i≤j+z6∧j<n∧p a=v∧z10)∧(z9∧n=n∧z8∧(↑i:Int)=(↑i:Int)∧z4)∧(false=false→(a<z1∧z1≤j+z6∧j<n∧p a=v∧z10)∧(z9∧n=n∧z8∧(↑(M.pUp (fun k=>M.Ql v (p k)) (j+z6) (j+z6-i) i):Int)=z7∧z4)∧(false=false→(decide (z0<z7)=true→false=false∧z9∧n=n∧z8∧z0=(↑(M.pLq (M.Ql v) i j p).2.2:Int)∧m≤m∧(∀ (k:Nat),k<m→(p k).1=((M.pLq (M.Ql v) i j p).1 k).1∧(p k).2=((M.pLq (M.Ql v) i j p).1 k).2)∧True)∧(decide (z0<z7)=false→(0:Int)≤z0∧z0<(↑n:Int)∧z5<m∧(0:Int)≤z7∧z7<(↑n:Int)∧z2<m∧(0:Int)≤z7∧z7<(↑n:Int)∧z2<m∧(0:Int)≤z0∧z0<(↑n:Int)∧z5<m∧R64 (z7+(1:Int))∧R64 (z0-(1:Int))∧(a<z1+z6∧z1+z6≤z3-z6+z6∧z3-z6<n∧M.sw z1 z3 p a=v∧z10)∧z3-z6+z6-(z1+z6)<j+z6-i∧M.pLq (M.Ql v) (z1+z6) (z3-z6) (M.sw z1 z3 p)=M.pLq (M.Ql v) i j p∧z9∧n=n∧z8∧z7+(1:Int)=(↑(z1+z6):Int)∧z0-(1:Int)=(↑(z3-z6):Int)∧m≤m∧(∀ (k:Nat),k<m→(bif decide (k=z5) then (p z2).1 else bif decide (k=z2) then (p z5).1 else (p k).1)=(M.sw z1 z3 p k).1∧(bif decide (k=z5) then (p z2).2 else bif decide (k=z2) then (p z5).2 else (p k).2)=(M.sw z1 z3 p k).2)∧True))∧z11)∧z11) ((0:Nat)+Int.toNat z7) ((0:Nat)+Int.toNat z0)) (↑(M.pDn (fun k=>!M.Ql v (p k)) z1 (j+z6-z1) j):Int) (↑z1:Int)) (M.plU (M.Ql v) i j p) (M.plD (M.Ql v) i j p) (1:Nat) ((↑j:Int)=(↑j:Int)∧m≤m∧(∀ (k:Nat),k<m→(p k).1=(p k).1∧(p k).2=(p k).2)∧True) ((↑a:Int)=(↑a:Int)) ((0:Nat)=(0:Nat)) (m=n∧n≤(100000:Nat)) (false=true→false=true∧True)
theorem q127m (n m a b:Nat) (i0 j0:Nat) (v:Int × Int) (p0:Nat→Int × Int) (i j:Nat) (p:Nat→Int × Int):VL true [] [(102,pureE e102)] YS.none Try.f127 1 [0,1,2,3,4,10,11,12,13,47,66,71,120,139,144] [(6,loopT false Try.f127.ntmps 1 (lp127u6 n m a j i v p) (fun _ _ _=>i)),(8,loopT false Try.f127.ntmps 1 (lp127d8 n m a (M.plU (M.Ql v) i j p) j v p) (fun _ _ _=>j))] 4 (lp127m n m a b i0 j0 v p0) ((i,j,p))=Rq127m n m a b i0 j0 v p0 i j p:=by kernel_rfl
theorem peq127m (n m a b:Nat) (i0 j0:Nat) (v:Int × Int) (p0:Nat→Int × Int) (i j:Nat) (p:Nat→Int × Int):(lp127m n m a b i0 j0 v p0).pre ((i,j,p))=(a<i∧i≤j+(1:Nat)∧j<n∧p a=v∧m=n∧n≤(100000:Nat)):=by kernel_rfl
theorem bq127m (n m a b:Nat) (i0 j0:Nat) (v:Int × Int) (p0:Nat→Int × Int) (i j:Nat) (p:Nat→Int × Int) (hp:a<i∧i≤j+(1:Nat)∧j<n∧p a=v∧m=n∧n≤(100000:Nat)):Rq127m n m a b i0 j0 v p0 i j p:=by
 unfold Rq127m
 dsimp -iota -proj -eta -zeta only
 obtain ⟨h0,h1,h2,h3,rfl,h4⟩:=id hp
 obtain ⟨a1,a2,a3,a4,a5⟩:=M.pl_in (Q:=M.Ql v) (p:=p) (show 1≤i by omega) h1
 simp only [M.plU_eq,M.plD_eq]
 by_cases hc:M.plD (M.Ql v) i j p<M.plU (M.Ql v) i j p
 ·have e:=M.pLq_stop (Q:=M.Ql v) (p:=p) h1 hc
  rw [e]
  simp [hc,h3]
  all_goals omega
 ·have e:=M.pLq_step (Q:=M.Ql v) (p:=p) (show 1≤i by omega) h1 hc
  have hs:M.sw (M.plU (M.Ql v) i j p) (M.plD (M.Ql v) i j p) p a=v:=by rw [M.sw_o (by omega) (by omega)]; exact h3
  rw [e]
  have a6:=a5 hc
  simp only [hs]
  have e1:(M.plD (M.Ql v) i j p:Int)-1=((M.plD (M.Ql v) i j p-1:Nat):Int):=by omega
  have r1:R64 ((M.plU (M.Ql v) i j p:Int)+1):=by unfold R64; omega
  have r2:R64 ((M.plD (M.Ql v) i j p-1:Nat):Int):=by unfold R64; omega
  simp only [e1,r1,r2,Nat.zero_add,Int.toNat_natCast,M.sw_f (f:=Prod.fst),M.sw_f (f:=Prod.snd)]
  simp [hc,h3]
  all_goals omega
theorem t127m (n m a b:Nat) (i0 j0:Nat) (v:Int × Int) (p0:Nat→Int × Int) {F:Fence} (hF:FOK F) (Y:YEnv PP YS.none):∀ Q A H nx,loopT false Try.f127.ntmps 1 (lp127m n m a b i0 j0 v p0) (fun _ _ _=>(i0,j0,p0)) Q A H nx→WPS Y F Try.f127.ntmps 1 (.block 4 (blkAt 4 Try.f127)) Q A H nx :=
 loopW (E:=[]) (.nil) (O:=[(102,pureE e102)]) (.cons (pureE_ok s102) (.nil)) (ck:=true) (L:=[0,1,2,3,4,10,11,12,13,47,66,71,120,139,144]) (f:=Try.f127) (m:=1) (id:=4) (l:=(lp127m n m a b i0 j0 v p0)) (LI:=fun | (i,j,p)=>[(6,loopT false Try.f127.ntmps 1 (lp127u6 n m a j i v p) (fun _ _ _=>i)),(8,loopT false Try.f127.ntmps 1 (lp127d8 n m a (M.plU (M.Ql v) i j p) j v p) (fun _ _ _=>j))]) Y hF (by kernel_rfl) (fun | (i,j,p)=>.cons (by kernel_rfl) (t127u6 n m a j i v p hF Y) (.cons (by kernel_rfl) (t127d8 n m a (M.plU (M.Ql v) i j p) j v p hF Y) (.nil))) (by
  rintro ⟨i,j,p⟩ hp
  exact Hold.of (q127m n m a b i0 j0 v p0 i j p) (bq127m n m a b i0 j0 v p0 i j p ((peq127m n m a b i0 j0 v p0 i j p).mp hp)))
def lp126m (n m a b:Nat) (i0 j0:Nat) (v:Int × Int) (p0:Nat→Int × Int):LoopS where
 ι:=Nat × Nat × (Nat→Int × Int)
 β:=(Nat→Int × Int) × Nat × Nat
 pre:=fun s=>a<s.1∧s.1≤s.2.1+1∧s.2.1<n∧s.2.2 a=v∧m=n∧n≤100000
 μ:=fun s=>s.2.1+1-s.1
 next:=fun s _ _ _=>(M.plU (M.Qe v) s.1 s.2.1 s.2.2+1,M.plD (M.Qe v) s.1 s.2.1 s.2.2-1,M.sw (M.plU (M.Qe v) s.1 s.2.1 s.2.2) (M.plD (M.Qe v) s.1 s.2.1 s.2.2) s.2.2)
 out:=fun s=>M.pLq (M.Qe v) s.1 s.2.1 s.2.2
 early _:=false
 SA:=fun s=>[(0,.vec 0 2 0 n),(1,SI a),(4,.fn 102 [] []),(11,SI s.1),(12,SI s.2.1)]
 SH:=fun s=>[(0,.row 2 m (fun k=>[SI (s.2.2 k).1,SI (s.2.2 k).2]))]
 n0:=1
 NA b:=[(11,SI b.2.1)]
 NH b:=[(0,.row 2 m (fun k=>[SI (b.1 k).1,SI (b.1 k).2]))]
 n1:=1
 RA _:=[]
 RH _:=[]
def Rq126m (n m a b:Nat) (i0 j0:Nat) (v:Int × Int) (p0:Nat→Int × Int) (i j:Nat) (p:Nat→Int × Int):Prop:=(fun (z9:Int) (z1 z3 z6:Nat) (z4 z8 z10 z11:Prop)=>(fun (z0 z7:Int)=>(fun (z2 z5:Nat)=>(a<i∧i≤j+z6∧j<n∧p a=v∧z8)∧(z11∧n=n∧z9=z9∧(↑i:Int)=(↑i:Int)∧z4)∧(false=false→(a<z1∧z1≤j+z6∧j<n∧p a=v∧z8)∧(z11∧n=n∧z9=z9∧(↑(M.pUp (fun k=>M.Qe v (p k)) (j+z6) (j+z6-i) i):Int)=z7∧z4)∧(false=false→(decide (z0<z7)=true→false=false∧z7=(↑(M.pLq (M.Qe v) i j p).2.1:Int)∧m≤m∧(∀ (k:Nat),k<m→(p k).1=((M.pLq (M.Qe v) i j p).1 k).1∧(p k).2=((M.pLq (M.Qe v) i j p).1 k).2)∧True)∧(decide (z0<z7)=false→(0:Int)≤z0∧z0<(↑n:Int)∧z5<m∧(0:Int)≤z7∧z7<(↑n:Int)∧z2<m∧(0:Int)≤z7∧z7<(↑n:Int)∧z2<m∧(0:Int)≤z0∧z0<(↑n:Int)∧z5<m∧R64 (z7+(1:Int))∧R64 (z0-(1:Int))∧(a<z1+z6∧z1+z6≤z3-z6+z6∧z3-z6<n∧M.sw z1 z3 p a=v∧z8)∧z3-z6+z6-(z1+z6)<j+z6-i∧M.pLq (M.Qe v) (z1+z6) (z3-z6) (M.sw z1 z3 p)=M.pLq (M.Qe v) i j p∧z11∧n=n∧z9=z9∧z7+(1:Int)=(↑(z1+z6):Int)∧z0-(1:Int)=(↑(z3-z6):Int)∧m≤m∧(∀ (k:Nat),k<m→(bif decide (k=z5) then (p z2).1 else bif decide (k=z2) then (p z5).1 else (p k).1)=(M.sw z1 z3 p k).1∧(bif decide (k=z5) then (p z2).2 else bif decide (k=z2) then (p z5).2 else (p k).2)=(M.sw z1 z3 p k).2)∧True))∧z10)∧z10) ((0:Nat)+Int.toNat z7) ((0:Nat)+Int.toNat z0)) (↑(M.pDn (fun k=>!M.Qe v (p k)) z1 (j+z6-z1) j):Int) (↑z1:Int)) (↑a:Int) (M.plU (M.Qe v) i j p) (M.plD (M.Qe v) i j p) (1:Nat) ((↑j:Int)=(↑j:Int)∧m≤m∧(∀ (k:Nat),k<m→(p k).1=(p k).1∧(p k).2=(p k).2)∧True) (m=n∧n≤(100000:Nat)) (false=true→false=true∧True) ((0:Nat)=(0:Nat))
theorem q126m (n m a b:Nat) (i0 j0:Nat) (v:Int × Int) (p0:Nat→Int × Int) (i j:Nat) (p:Nat→Int × Int):VL true [] [(102,pureE e102)] YS.none Try.f126 1 [0,1,2,3,4,10,11,12,47,65,70] [(2,loopT false Try.f126.ntmps 1 (lp126u2 n m a j i v p) (fun _ _ _=>i)),(4,loopT false Try.f126.ntmps 1 (lp126d4 n m a (M.plU (M.Qe v) i j p) j v p) (fun _ _ _=>j))] 0 (lp126m n m a b i0 j0 v p0) ((i,j,p))=Rq126m n m a b i0 j0 v p0 i j p:=by kernel_rfl
theorem peq126m (n m a b:Nat) (i0 j0:Nat) (v:Int × Int) (p0:Nat→Int × Int) (i j:Nat) (p:Nat→Int × Int):(lp126m n m a b i0 j0 v p0).pre ((i,j,p))=(a<i∧i≤j+(1:Nat)∧j<n∧p a=v∧m=n∧n≤(100000:Nat)):=by kernel_rfl
theorem bq126m (n m a b:Nat) (i0 j0:Nat) (v:Int × Int) (p0:Nat→Int × Int) (i j:Nat) (p:Nat→Int × Int) (hp:a<i∧i≤j+(1:Nat)∧j<n∧p a=v∧m=n∧n≤(100000:Nat)):Rq126m n m a b i0 j0 v p0 i j p:=by
 unfold Rq126m
 dsimp -iota -proj -eta -zeta only
 obtain ⟨h0,h1,h2,h3,rfl,h4⟩:=id hp
 obtain ⟨a1,a2,a3,a4,a5⟩:=M.pl_in (Q:=M.Qe v) (p:=p) (show 1≤i by omega) h1
 simp only [M.plU_eq,M.plD_eq]
 by_cases hc:M.plD (M.Qe v) i j p<M.plU (M.Qe v) i j p
 ·have e:=M.pLq_stop (Q:=M.Qe v) (p:=p) h1 hc
  rw [e]
  simp [hc,h3]
  all_goals omega
 ·have e:=M.pLq_step (Q:=M.Qe v) (p:=p) (show 1≤i by omega) h1 hc
  have hs:M.sw (M.plU (M.Qe v) i j p) (M.plD (M.Qe v) i j p) p a=v:=by rw [M.sw_o (by omega) (by omega)]; exact h3
  rw [e]
  have a6:=a5 hc
  simp only [hs]
  have e1:(M.plD (M.Qe v) i j p:Int)-1=((M.plD (M.Qe v) i j p-1:Nat):Int):=by omega
  have r1:R64 ((M.plU (M.Qe v) i j p:Int)+1):=by unfold R64; omega
  have r2:R64 ((M.plD (M.Qe v) i j p-1:Nat):Int):=by unfold R64; omega
  simp only [e1,r1,r2,Nat.zero_add,Int.toNat_natCast,M.sw_f (f:=Prod.fst),M.sw_f (f:=Prod.snd)]
  simp [hc,h3]
  all_goals omega
theorem t126m (n m a b:Nat) (i0 j0:Nat) (v:Int × Int) (p0:Nat→Int × Int) {F:Fence} (hF:FOK F) (Y:YEnv PP YS.none):∀ Q A H nx,loopT false Try.f126.ntmps 1 (lp126m n m a b i0 j0 v p0) (fun _ _ _=>(i0,j0,p0)) Q A H nx→WPS Y F Try.f126.ntmps 1 (.block 0 (blkAt 0 Try.f126)) Q A H nx :=
 loopW (E:=[]) (.nil) (O:=[(102,pureE e102)]) (.cons (pureE_ok s102) (.nil)) (ck:=true) (L:=[0,1,2,3,4,10,11,12,47,65,70]) (f:=Try.f126) (m:=1) (id:=0) (l:=(lp126m n m a b i0 j0 v p0)) (LI:=fun | (i,j,p)=>[(2,loopT false Try.f126.ntmps 1 (lp126u2 n m a j i v p) (fun _ _ _=>i)),(4,loopT false Try.f126.ntmps 1 (lp126d4 n m a (M.plU (M.Qe v) i j p) j v p) (fun _ _ _=>j))]) Y hF (by kernel_rfl) (fun | (i,j,p)=>.cons (by kernel_rfl) (t126u2 n m a j i v p hF Y) (.cons (by kernel_rfl) (t126d4 n m a (M.plU (M.Qe v) i j p) j v p hF Y) (.nil))) (by
  rintro ⟨i,j,p⟩ hp
  exact Hold.of (q126m n m a b i0 j0 v p0 i j p) (bq126m n m a b i0 j0 v p0 i j p ((peq126m n m a b i0 j0 v p0 i j p).mp hp)))
def e127:EntB
 | [.vec 0 2 0 n,.int .i64 a,.int .i64 b,.int .i64 pv,.fn 102 [] []],[.row 2 m g_1]=>some ([Row 2 m g_1,m=n,n≤100000,0≤a,a+1<b,b≤n,a≤pv,pv<b],.tup [SI (M.prM (fun z:Int × Int=>z.1) a.toNat b.toNat pv.toNat (pr2 g_1)),.bool (M.prA a.toNat b.toNat pv.toNat (pr2 g_1))],[.row 2 m (fun k=>[SI ((M.prP (fun z:Int × Int=>z.1) a.toNat b.toNat pv.toNat (pr2 g_1)) k).1,SI ((M.prP (fun z:Int × Int=>z.1) a.toNat b.toNat pv.toNat (pr2 g_1)) k).2])])
 | _,_=>none
def Rr127 (n m:Nat) (a b pv:Int) (p:Nat→Int × Int):Prop:=(fun (z12 z14 z21:Int) (z4 z5 z6 z8 z10:Nat) (z20:Prop)=>(fun (z13 z22:Int) (z23:Nat)=>(fun (z0 z1 z7:Nat) (z17:Prop)=>(fun (z2 z11:Int) (z18 z19:Nat)=>(fun (z3:Int) (z9 z15:Nat)=>(fun (z16:Nat)=>z14≤pv∧pv<z12∧z6+z5<m∧z14≤a∧a<z12∧z6+z4<m∧z14≤a∧a<z12∧z6+z4<m∧z14≤pv∧pv<z12∧z6+z5<m∧R64 (a+z21)∧R64 (b-z21)∧(z4<z4+z8∧z4+z8≤z23+z8∧z17)∧(z6=z6∧n=n∧a=z13∧a+z21=(↑(z4+z8):Int)∧b-z21=(↑z23:Int)∧m≤m∧(∀ (k:Nat),k<m→(bif decide (k=z6+z5) then (p (z6+z4)).1 else bif decide (k=z6+z4) then (p (z6+z5)).1 else (p k).1)=(M.sw z4 z5 p k).1∧(bif decide (k=z6+z5) then (p (z6+z4)).2 else bif decide (k=z6+z4) then (p (z6+z5)).2 else (p k).2)=(M.sw z4 z5 p k).2)∧True)∧(false=false→(z4<z0∧z0≤z23+z8∧z17)∧(z6=z6∧n=n∧z13=z13∧(↑(M.pUp (fun k=>M.Ql (p z5) (M.sw z4 z5 p k)) (z23+z8) (z23+z8-(z4+z8)) (z4+z8)):Int)=z11∧(↑z23:Int)=(↑z23:Int)∧m≤m∧(∀ (k:Nat),k<m→(M.sw z4 z5 p k).1=(M.sw z4 z5 p k).1∧(M.sw z4 z5 p k).2=(M.sw z4 z5 p k).2)∧True)∧(false=false→(decide (z2<z11)=true→z14≤z13∧z13<z12∧z7<m∧z14≤z2∧z2<z12∧z9<m∧z14≤z2∧z2<z12∧z9<m∧z14≤z13∧z13<z12∧z7<m∧(m≤m∧∀ (k:Nat),k<m→(bif decide (k=z7) then (M.sw z4 z5 p z9).1 else bif decide (k=z9) then (M.sw z4 z5 p z7).1 else (M.sw z4 z5 p k).1)=(M.prP (fun z=>z.1) z4 z10 z5 p k).1∧(bif decide (k=z7) then (M.sw z4 z5 p z9).2 else bif decide (k=z9) then (M.sw z4 z5 p z7).2 else (M.sw z4 z5 p k).2)=(M.prP (fun z=>z.1) z4 z10 z5 p k).2)∧z2=z22∧true=M.prA z4 z10 z5 p)∧(decide (z2<z11)=false→z14≤z2∧z2<z12∧z9<m∧z14≤z11∧z11<z12∧z15<m∧z14≤z11∧z11<z12∧z15<m∧z14≤z2∧z2<z12∧z9<m∧R64 (z11+z21)∧R64 (z2-z21)∧(z4<z18∧z18≤z19+z8∧z19<n∧M.sw z0 z1 (M.sw z4 z5 p) z4=p z5∧m=n∧n≤(100000:Nat))∧(z6=z6∧n=n∧z13=z13∧z11+z21=(↑z18:Int)∧z2-z21=(↑z19:Int)∧m≤m∧(∀ (k:Nat),k<m→(bif decide (k=z9) then (M.sw z4 z5 p z15).1 else bif decide (k=z15) then (M.sw z4 z5 p z9).1 else (M.sw z4 z5 p k).1)=(M.sw z0 z1 (M.sw z4 z5 p) k).1∧(bif decide (k=z9) then (M.sw z4 z5 p z15).2 else bif decide (k=z15) then (M.sw z4 z5 p z9).2 else (M.sw z4 z5 p k).2)=(M.sw z0 z1 (M.sw z4 z5 p) k).2)∧True)∧(false=false→z14≤z13∧z13<z12∧z7<m∧z14≤z3∧z3<z12∧z16<m∧z14≤z3∧z3<z12∧z16<m∧z14≤z13∧z13<z12∧z7<m∧(m≤m∧∀ (k:Nat),k<m→(bif decide (k=z7) then ((M.pLq (M.Ql (p z5)) z18 z19 (M.sw z0 z1 (M.sw z4 z5 p))).1 z16).1 else bif decide (k=z16) then ((M.pLq (M.Ql (p z5)) z18 z19 (M.sw z0 z1 (M.sw z4 z5 p))).1 z7).1 else ((M.pLq (M.Ql (p z5)) z18 z19 (M.sw z0 z1 (M.sw z4 z5 p))).1 k).1)=(M.prP (fun z=>z.1) z4 z10 z5 p k).1∧(bif decide (k=z7) then ((M.pLq (M.Ql (p z5)) z18 z19 (M.sw z0 z1 (M.sw z4 z5 p))).1 z16).2 else bif decide (k=z16) then ((M.pLq (M.Ql (p z5)) z18 z19 (M.sw z0 z1 (M.sw z4 z5 p))).1 z7).2 else ((M.pLq (M.Ql (p z5)) z18 z19 (M.sw z0 z1 (M.sw z4 z5 p))).1 k).2)=(M.prP (fun z=>z.1) z4 z10 z5 p k).2)∧z3=z22∧false=M.prA z4 z10 z5 p)∧z20))∧z20)∧z20) (z6+Int.toNat z3)) (↑(M.pLq (M.Ql (p z5)) z18 z19 (M.sw z0 z1 (M.sw z4 z5 p))).2.2:Int) (z6+Int.toNat z2) (z6+Int.toNat z11)) (↑(M.pDn (fun k=>!M.Ql (p z5) (M.sw z4 z5 p k)) z0 (z23+z8-z0) z23):Int) (↑z0:Int) (z0+z8) (z1-z8)) (M.plU (M.Ql (p z5)) (z4+z8) z23 (M.sw z4 z5 p)) (M.plD (M.Ql (p z5)) (z4+z8) z23 (M.sw z4 z5 p)) (z6+Int.toNat z13) (z23<n∧M.sw z4 z5 p z4=p z5∧m=n∧n≤(100000:Nat))) (↑z4:Int) (↑(M.prM (fun z=>z.1) z4 z10 z5 p):Int) (z10-z8)) (↑n:Int) (0:Int) (1:Int) (Int.toNat a) (Int.toNat pv) (0:Nat) (1:Nat) (Int.toNat b) (false=true→False)
theorem r127 (n m:Nat) (a b pv:Int) (p:Nat→Int × Int):VB true [] [] Try.f127 [0,1,2,3,4,10,11,12,13,47,66,71,120,139,144] [(0,loopT false Try.f127.ntmps 1 (lp127u0 n m a.toNat (b.toNat-1) (a.toNat+1) (p pv.toNat) (M.sw a.toNat pv.toNat p)) (fun _ _ _=>(a.toNat+1))),(2,loopT false Try.f127.ntmps 1 (lp127d2 n m a.toNat (M.plU (M.Ql (p pv.toNat)) (a.toNat+1) (b.toNat-1) (M.sw a.toNat pv.toNat p)) (b.toNat-1) (p pv.toNat) (M.sw a.toNat pv.toNat p)) (fun _ _ _=>(b.toNat-1))),(4,loopT false Try.f127.ntmps 1 (lp127m n m a.toNat b.toNat ((M.plU (M.Ql (p pv.toNat)) (a.toNat+1) (b.toNat-1) (M.sw a.toNat pv.toNat p))+1) ((M.plD (M.Ql (p pv.toNat)) (a.toNat+1) (b.toNat-1) (M.sw a.toNat pv.toNat p))-1) (p pv.toNat) (M.sw (M.plU (M.Ql (p pv.toNat)) (a.toNat+1) (b.toNat-1) (M.sw a.toNat pv.toNat p)) (M.plD (M.Ql (p pv.toNat)) (a.toNat+1) (b.toNat-1) (M.sw a.toNat pv.toNat p)) (M.sw a.toNat pv.toNat p))) (fun _ _ _=>(((M.plU (M.Ql (p pv.toNat)) (a.toNat+1) (b.toNat-1) (M.sw a.toNat pv.toNat p))+1),((M.plD (M.Ql (p pv.toNat)) (a.toNat+1) (b.toNat-1) (M.sw a.toNat pv.toNat p))-1),(M.sw (M.plU (M.Ql (p pv.toNat)) (a.toNat+1) (b.toNat-1) (M.sw a.toNat pv.toNat p)) (M.plD (M.Ql (p pv.toNat)) (a.toNat+1) (b.toNat-1) (M.sw a.toNat pv.toNat p)) (M.sw a.toNat pv.toNat p)))))] [.vec 0 2 0 n,SI a,SI b,SI pv,.fn 102 [] []] [.row 2 m (fun k=>[SI (p k).1,SI (p k).2])] (.tup [SI (M.prM (fun z:Int × Int=>z.1) a.toNat b.toNat pv.toNat p),.bool (M.prA a.toNat b.toNat pv.toNat p)]) [.row 2 m (fun k=>[SI ((M.prP (fun z:Int × Int=>z.1) a.toNat b.toNat pv.toNat p) k).1,SI ((M.prP (fun z:Int × Int=>z.1) a.toNat b.toNat pv.toNat p) k).2])]=Rr127 n m a b pv p:=by kernel_rfl
theorem br127 (n m:Nat) (a b pv:Int) (p:Nat→Int × Int) (hp:(m=n)∧(n≤100000)∧(0≤a)∧(a+1<b)∧(b≤n)∧(a≤pv)∧(pv<b)∧AllP []):Rr127 n m a b pv p:=by
 unfold Rr127
 dsimp -iota -proj -eta -zeta only
 obtain ⟨rfl,h2,h3,h4,h5,h6,h7,-⟩:=id hp
 obtain ⟨A,rfl⟩:=Int.eq_ofNat_of_zero_le h3
 obtain ⟨B,rfl⟩:=Int.eq_ofNat_of_zero_le (show 0≤b by omega)
 obtain ⟨C,rfl⟩:=Int.eq_ofNat_of_zero_le (show 0≤pv by omega)
 simp only [Int.toNat_natCast,Nat.zero_add,M.sw_f (f:=Prod.fst),M.sw_f (f:=Prod.snd)]
 have sv:M.sw A C p A=p C:=M.sw_l
 have r1:R64 ((A:Int)+1):=by unfold R64; omega
 have r2:R64 ((B:Int)-1):=by unfold R64; omega
 have e1:(B:Int)-1=((B-1:Nat):Int):=by omega
 have eL:=M.prL_q (a:=A) (b:=B) (pv:=C) (p:=p) (by omega)
 obtain ⟨a1,a2,a3,a4,a5⟩:=M.pl_in (Q:=M.Ql (p C)) (i:=A+1) (j:=B-1) (p:=M.sw A C p) (by omega) (by omega)
 have eM:M.prM (fun z:Int × Int=>z.1) A B C p=(M.pLq (M.Ql (p C)) (A+1) (B-1) (M.sw A C p)).2.2:=by unfold M.prM; rw [eL]
 have eP:M.prP (fun z:Int × Int=>z.1) A B C p=M.sw (M.pLq (M.Ql (p C)) (A+1) (B-1) (M.sw A C p)).2.2 A (M.pLq (M.Ql (p C)) (A+1) (B-1) (M.sw A C p)).1:=by unfold M.prP; rw [eL]
 simp only [sv,r1,r2,M.plU_eq,M.plD_eq,eM,eP,M.prA]
 by_cases hc:M.plD (M.Ql (p C)) (A+1) (B-1) (M.sw A C p)<M.plU (M.Ql (p C)) (A+1) (B-1) (M.sw A C p)
 ·have e:=M.pLq_stop (Q:=M.Ql (p C)) (p:=M.sw A C p) (show A+1≤B-1+1 by omega) hc
  rw [e]
  simp [hc]
  all_goals omega
 ·have e:=M.pLq_step (Q:=M.Ql (p C)) (p:=M.sw A C p) (show 1≤A+1 by omega) (show A+1≤B-1+1 by omega) hc
  have hs:M.sw (M.plU (M.Ql (p C)) (A+1) (B-1) (M.sw A C p)) (M.plD (M.Ql (p C)) (A+1) (B-1) (M.sw A C p)) (M.sw A C p) A=p C:=by rw [M.sw_o (by omega) (by omega)]; exact sv
  have a6:=a5 hc
  rw [e]
  simp only [hs]
  have w:=M.pLp_ok (Q:=M.Ql (p C)) (M.plD (M.Ql (p C)) (A+1) (B-1) (M.sw A C p)-1+2-(M.plU (M.Ql (p C)) (A+1) (B-1) (M.sw A C p)+1)) (M.plU (M.Ql (p C)) (A+1) (B-1) (M.sw A C p)+1) (M.plD (M.Ql (p C)) (A+1) (B-1) (M.sw A C p)-1) (M.sw (M.plU (M.Ql (p C)) (A+1) (B-1) (M.sw A C p)) (M.plD (M.Ql (p C)) (A+1) (B-1) (M.sw A C p)) (M.sw A C p)) (by omega) (by omega) (by omega) (by omega)
  have w2:M.pLp (M.Ql (p C)) (M.plD (M.Ql (p C)) (A+1) (B-1) (M.sw A C p)-1+2-(M.plU (M.Ql (p C)) (A+1) (B-1) (M.sw A C p)+1)) (M.plU (M.Ql (p C)) (A+1) (B-1) (M.sw A C p)+1) (M.plD (M.Ql (p C)) (A+1) (B-1) (M.sw A C p)-1) (M.sw (M.plU (M.Ql (p C)) (A+1) (B-1) (M.sw A C p)) (M.plD (M.Ql (p C)) (A+1) (B-1) (M.sw A C p)) (M.sw A C p))=M.pLq (M.Ql (p C)) (M.plU (M.Ql (p C)) (A+1) (B-1) (M.sw A C p)+1) (M.plD (M.Ql (p C)) (A+1) (B-1) (M.sw A C p)-1) (M.sw (M.plU (M.Ql (p C)) (A+1) (B-1) (M.sw A C p)) (M.plD (M.Ql (p C)) (A+1) (B-1) (M.sw A C p)) (M.sw A C p)):=rfl
  rw [w2] at w
  obtain ⟨-,w3,w4,w5,-,-⟩:=w
  have r3:R64 ((M.plU (M.Ql (p C)) (A+1) (B-1) (M.sw A C p):Int)+1):=by unfold R64; omega
  have e2:(M.plD (M.Ql (p C)) (A+1) (B-1) (M.sw A C p):Int)-1=((M.plD (M.Ql (p C)) (A+1) (B-1) (M.sw A C p)-1:Nat):Int):=by omega
  have r4:R64 ((M.plD (M.Ql (p C)) (A+1) (B-1) (M.sw A C p)-1:Nat):Int):=by unfold R64; omega
  simp only [e2,r3,r4,Int.toNat_natCast,Nat.zero_add,M.sw_f (f:=Prod.fst),M.sw_f (f:=Prod.snd)]
  simp [hc]
  all_goals omega
theorem s127:SpecOK PP 127 e127:=by
 intro xs Hs ps res Hs1 h hp
 unfold e127 at h
 split at h
 ·rename_i n a b pv m g_1
  cases h
  simp only [AllP.cons] at hp
  obtain ⟨Hg_1,hp⟩:=hp
  exact Spec.blocks (enterBH (Hold.of (r127 n m a b pv (pr2 g_1)) (br127 n m a b pv (pr2 g_1) hp)) (.nil) (.nil) (k:=127) (by kernel_rfl) (by kernel_rfl) rfl (fun Y=>.cons (by kernel_rfl) (t127u0 n m a.toNat (b.toNat-1) (a.toNat+1) ((pr2 g_1) pv.toNat) (M.sw a.toNat pv.toNat (pr2 g_1)) FOK.wide Y) (.cons (by kernel_rfl) (t127d2 n m a.toNat (M.plU (M.Ql ((pr2 g_1) pv.toNat)) (a.toNat+1) (b.toNat-1) (M.sw a.toNat pv.toNat (pr2 g_1))) (b.toNat-1) ((pr2 g_1) pv.toNat) (M.sw a.toNat pv.toNat (pr2 g_1)) FOK.wide Y) (.cons (by kernel_rfl) (t127m n m a.toNat b.toNat ((M.plU (M.Ql ((pr2 g_1) pv.toNat)) (a.toNat+1) (b.toNat-1) (M.sw a.toNat pv.toNat (pr2 g_1)))+1) ((M.plD (M.Ql ((pr2 g_1) pv.toNat)) (a.toNat+1) (b.toNat-1) (M.sw a.toNat pv.toNat (pr2 g_1)))-1) ((pr2 g_1) pv.toNat) (M.sw (M.plU (M.Ql ((pr2 g_1) pv.toNat)) (a.toNat+1) (b.toNat-1) (M.sw a.toNat pv.toNat (pr2 g_1))) (M.plD (M.Ql ((pr2 g_1) pv.toNat)) (a.toNat+1) (b.toNat-1) (M.sw a.toNat pv.toNat (pr2 g_1))) (M.sw a.toNat pv.toNat (pr2 g_1))) FOK.wide Y) (.nil))))) (.row Hg_1 (fun _=>rfl) .nil)
 ·cases h
def e126:EntB
 | [.vec 0 2 0 n,.int .i64 a,.int .i64 b,.int .i64 pv,.fn 102 [] []],[.row 2 m g_1]=>some ([Row 2 m g_1,m=n,n≤100000,0≤a,a+1<b,b≤n,a≤pv,pv<b],SI ((M.peL (fun z:Int × Int=>z.1) a.toNat b.toNat pv.toNat (pr2 g_1)).2.1),[.row 2 m (fun k=>[SI (((M.peL (fun z:Int × Int=>z.1) a.toNat b.toNat pv.toNat (pr2 g_1)).1) k).1,SI (((M.peL (fun z:Int × Int=>z.1) a.toNat b.toNat pv.toNat (pr2 g_1)).1) k).2])])
 | _,_=>none
def Rr126 (n m:Nat) (a b pv:Int) (p:Nat→Int × Int):Prop:=(fun (z5:Int) (z0 z1 z2 z3:Nat)=>(fun (z4 z6 z7:Nat)=>(0:Int)≤pv∧pv<z5∧z6<m∧(0:Int)≤a∧a<z5∧z7<m∧(0:Int)≤a∧a<z5∧z7<m∧(0:Int)≤pv∧pv<z5∧z6<m∧R64 (a+(1:Int))∧R64 (b-(1:Int))∧(z0<z4∧z4≤z2+(1:Nat)∧z2<n∧M.sw z0 z1 p z0=p z1∧m=n∧n≤(100000:Nat))∧(z3=z3∧n=n∧a=(↑z0:Int)∧a+(1:Int)=(↑z4:Int)∧b-(1:Int)=(↑z2:Int)∧m≤m∧(∀ (k:Nat),k<m→(bif decide (k=z6) then (p z7).1 else bif decide (k=z7) then (p z6).1 else (p k).1)=(M.sw z0 z1 p k).1∧(bif decide (k=z6) then (p z7).2 else bif decide (k=z7) then (p z6).2 else (p k).2)=(M.sw z0 z1 p k).2)∧True)∧(false=false→(m≤m∧∀ (k:Nat),k<m→((M.pLq (M.Qe (p z1)) z4 z2 (M.sw z0 z1 p)).1 k).1=((M.peL (fun z=>z.1) z0 (Int.toNat b) z1 p).1 k).1∧((M.pLq (M.Qe (p z1)) z4 z2 (M.sw z0 z1 p)).1 k).2=((M.peL (fun z=>z.1) z0 (Int.toNat b) z1 p).1 k).2)∧(↑(M.pLq (M.Qe (p z1)) z4 z2 (M.sw z0 z1 p)).2.1:Int)=(↑(M.peL (fun z=>z.1) z0 (Int.toNat b) z1 p).2.1:Int))∧(false=true→False)) (z0+(1:Nat)) (z3+z1) (z3+z0)) (↑n:Int) (Int.toNat a) (Int.toNat pv) (Int.toNat b-(1:Nat)) (0:Nat)
theorem r126 (n m:Nat) (a b pv:Int) (p:Nat→Int × Int):VB true [] [] Try.f126 [0,1,2,3,4,10,11,12,47,65,70] [(0,loopT false Try.f126.ntmps 1 (lp126m n m a.toNat b.toNat (a.toNat+1) (b.toNat-1) (p pv.toNat) (M.sw a.toNat pv.toNat p)) (fun _ _ _=>((a.toNat+1),(b.toNat-1),(M.sw a.toNat pv.toNat p))))] [.vec 0 2 0 n,SI a,SI b,SI pv,.fn 102 [] []] [.row 2 m (fun k=>[SI (p k).1,SI (p k).2])] (SI ((M.peL (fun z:Int × Int=>z.1) a.toNat b.toNat pv.toNat p).2.1)) [.row 2 m (fun k=>[SI (((M.peL (fun z:Int × Int=>z.1) a.toNat b.toNat pv.toNat p).1) k).1,SI (((M.peL (fun z:Int × Int=>z.1) a.toNat b.toNat pv.toNat p).1) k).2])]=Rr126 n m a b pv p:=by kernel_rfl
theorem br126 (n m:Nat) (a b pv:Int) (p:Nat→Int × Int) (hp:(m=n)∧(n≤100000)∧(0≤a)∧(a+1<b)∧(b≤n)∧(a≤pv)∧(pv<b)∧AllP []):Rr126 n m a b pv p:=by
 unfold Rr126
 dsimp -iota -proj -eta -zeta only
 obtain ⟨rfl,h2,h3,h4,h5,h6,h7,-⟩:=id hp
 obtain ⟨A,rfl⟩:=Int.eq_ofNat_of_zero_le h3
 obtain ⟨B,rfl⟩:=Int.eq_ofNat_of_zero_le (show 0≤b by omega)
 obtain ⟨C,rfl⟩:=Int.eq_ofNat_of_zero_le (show 0≤pv by omega)
 simp only [Int.toNat_natCast,Nat.zero_add,M.sw_f (f:=Prod.fst),M.sw_f (f:=Prod.snd)]
 have sv:M.sw A C p A=p C:=M.sw_l
 have r1:R64 ((A:Int)+1):=by unfold R64; omega
 have r2:R64 ((B:Int)-1):=by unfold R64; omega
 have e1:(B:Int)-1=((B-1:Nat):Int):=by omega
 have eL:=M.peL_q (a:=A) (b:=B) (pv:=C) (p:=p) (by omega)
 simp only [sv,r1,r2,eL]
 simp
 omega
theorem s126:SpecOK PP 126 e126:=by
 intro xs Hs ps res Hs1 h hp
 unfold e126 at h
 split at h
 ·rename_i n a b pv m g_1
  cases h
  simp only [AllP.cons] at hp
  obtain ⟨Hg_1,hp⟩:=hp
  exact Spec.blocks (enterBH (Hold.of (r126 n m a b pv (pr2 g_1)) (br126 n m a b pv (pr2 g_1) hp)) (.nil) (.nil) (k:=126) (by kernel_rfl) (by kernel_rfl) rfl (fun Y=>.cons (by kernel_rfl) (t126m n m a.toNat b.toNat (a.toNat+1) (b.toNat-1) ((pr2 g_1) pv.toNat) (M.sw a.toNat pv.toNat (pr2 g_1)) FOK.wide Y) (.nil))) (.row Hg_1 (fun _=>rfl) .nil)
 ·cases h
end Go.Proofs.Ytoncoofmijjgeaa.Sep
namespace Go.Proofs.Ytoncoofmijjgeaa.Sep
open Go
set_option linter.unusedVariables false
set_option linter.unusedSimpArgs false
def lp125s (n m a b c i0:Nat) (p:Nat→Int × Int):LoopS where
 ι:=Nat
 β:=Nat
 pre:=fun i=>a<i∧i≤b∧b≤n∧m=n∧n≤100000
 μ:=fun i=>b-i
 next:=fun i _ _ _=>i+1
 out:=fun i=>M.pUp (fun k=>!decide ((p k).1<(p (k-1)).1)) b (b-i) i
 early _:=false
 SA:=fun i=>[(0,.vec 0 2 0 n),(1,SI a),(2,SI b),(3,.fn 102 [] []),(9,SI i),(10,SI c)]
 SH:=fun _=>[(0,.row 2 m (fun k=>[SI (p k).1,SI (p k).2]))]
 n0:=1
 NA i:=[(0,.vec 0 2 0 n),(1,SI a),(2,SI b),(3,.fn 102 [] []),(9,SI i),(10,SI c)]
 NH _:=[(0,.row 2 m (fun k=>[SI (p k).1,SI (p k).2]))]
 n1:=1
 RA _:=[]
 RH _:=[]
def Rq125s (n m a b c i0:Nat) (p:Nat→Int × Int) (i:Nat):Prop:=(fun (z5 z9:Int) (z6 z8:Nat) (z3:Nat→Nat→Nat) (z2:Prop)=>(fun (z7:Int) (z0:Prop)=>(fun (z1:Bool) (z4:Prop)=>z4∧z4∧(z0→(0:Int)≤z5)∧(z0→z5<(↑n:Int))∧z4∧(z0→z8+Int.toNat z5<m)∧z4∧(z0→R64 z7)∧z4∧z4∧(z0→(0:Int)≤z7)∧(z0→z7<(↑n:Int))∧z4∧(z0→z8+Int.toNat z7<m)∧z4∧z4∧z4∧z4∧z4∧z4∧(z1=true→R64 (z5+(1:Int))∧(a<z6∧z6≤b∧b≤n∧m=n∧n≤(100000:Nat))∧b-z6<b-i∧z3 (b-z6) z6=z3 (b-i) i∧z8=z8∧n=n∧z9=z9∧(↑b:Int)=(↑b:Int)∧z5+(1:Int)=(↑z6:Int)∧z2)∧(z1=false→false=false∧z8=z8∧n=n∧z9=z9∧(↑b:Int)=(↑b:Int)∧z5=(↑(z3 (b-i) i):Int)∧z2)) (bif decide (z5<(↑b:Int)) then !decide (M.cmpI (p (z8+Int.toNat z5)).1 (p (z8+Int.toNat z7)).1<(0:Int)) else false) (z0→z0)) (z5-(1:Int)) (decide (z5<(↑b:Int))=true)) (↑i:Int) (↑a:Int) (i+(1:Nat)) (0:Nat) (M.pUp (fun k=>!decide ((p k).1<(p (k-(1:Nat))).1)) b) ((↑c:Int)=(↑c:Int)∧m≤m∧(∀ (k:Nat),k<m→(p k).1=(p k).1∧(p k).2=(p k).2)∧True)
theorem q125s (n m a b c i0:Nat) (p:Nat→Int × Int) (i:Nat):VL true [] [(102,pureE e102)] YS.none Try.f125 1 [0,1,2,3,8,9,10,11,12,16,36,41,45,65,69,84,104,109,124] [] 2 (lp125s n m a b c i0 p) (i)=Rq125s n m a b c i0 p i:=by kernel_rfl
theorem peq125s (n m a b c i0:Nat) (p:Nat→Int × Int) (i:Nat):(lp125s n m a b c i0 p).pre (i)=(a<i∧i≤b∧b≤n∧m=n∧n≤(100000:Nat)):=by kernel_rfl
theorem bq125s (n m a b c i0:Nat) (p:Nat→Int × Int) (i:Nat) (hp:a<i∧i≤b∧b≤n∧m=n∧n≤(100000:Nat)):Rq125s n m a b c i0 p i:=by
 unfold Rq125s
 dsimp -iota -proj -eta -zeta only
 obtain ⟨h1,h2,h3,rfl,h5⟩:=id hp
 have e1:((i:Int)-1).toNat=i-1:=by omega
 have r1:R64 ((i:Int)+1):=by unfold R64; omega
 have r2:R64 ((i:Int)-1):=by unfold R64; omega
 simp only [M.cmpI_lt,Nat.zero_add,Int.toNat_natCast,e1,r1,r2]
 by_cases hl:i<b
 ·by_cases hc:(p i).1<(p (i-1)).1
  ·have e:=M.pUp_stop (c:=fun k=>!decide ((p k).1<(p (k-1)).1)) (n:=b) (i:=i) (fun _=>by simp [hc])
   rw [e]
   simp [hl,hc]
   all_goals omega
  ·have e:=M.pUp_step (c:=fun k=>!decide ((p k).1<(p (k-1)).1)) (n:=b) (i:=i) hl (by simp [hc])
   rw [e]
   simp [hl,hc]
   all_goals omega
 ·have e:=M.pUp_stop (c:=fun k=>!decide ((p k).1<(p (k-1)).1)) (n:=b) (i:=i) (fun h=>absurd h hl)
  rw [e]
  simp [hl]
theorem t125s (n m a b c i0:Nat) (p:Nat→Int × Int) {F:Fence} (hF:FOK F) (Y:YEnv PP YS.none):∀ Q A H nx,loopT false Try.f125.ntmps 1 (lp125s n m a b c i0 p) (fun _ _ _=>i0) Q A H nx→WPS Y F Try.f125.ntmps 1 (.block 2 (blkAt 2 Try.f125)) Q A H nx :=
 loopW (E:=[]) (.nil) (O:=[(102,pureE e102)]) (.cons (pureE_ok s102) (.nil)) (ck:=true) (L:=[0,1,2,3,8,9,10,11,12,16,36,41,45,65,69,84,104,109,124]) (f:=Try.f125) (m:=1) (id:=2) (l:=(lp125s n m a b c i0 p)) (LI:=fun i=>[]) Y hF (by kernel_rfl) (fun _=>.nil) (by
  rintro i hp
  exact Hold.of (q125s n m a b c i0 p i) (bq125s n m a b c i0 p i ((peq125s n m a b c i0 p i).mp hp)))
def lp125l (n m a b c i:Nat) (j0:Nat) (p0:Nat→Int × Int):LoopS where
 ι:=Nat × (Nat→Int × Int)
 β:=Nat→Int × Int
 pre:=fun s=>s.1<n∧m=n∧n≤100000
 μ:=fun s=>s.1
 next:=fun s _ _ _=>(s.1-1,M.sw s.1 (s.1-1) s.2)
 out:=fun s=>M.shL (fun z:Int × Int=>z.1) s.1 s.2
 early _:=false
 SA:=fun s=>[(0,.vec 0 2 0 n),(1,SI a),(2,SI b),(3,.fn 102 [] []),(9,SI i),(10,SI c),(11,SI s.1)]
 SH:=fun s=>[(0,.row 2 m (fun k=>[SI (s.2 k).1,SI (s.2 k).2]))]
 n0:=1
 NA _:=[(0,.vec 0 2 0 n),(1,SI a),(2,SI b),(3,.fn 102 [] []),(9,SI i),(10,SI c)]
 NH q:=[(0,.row 2 m (fun k=>[SI (q k).1,SI (q k).2]))]
 n1:=1
 RA _:=[]
 RH _:=[]
def Rq125l (n m a b c i:Nat) (j0:Nat) (p0:Nat→Int × Int) (j:Nat) (p:Nat→Int × Int):Prop:=(fun (z5 z6 z7:Int) (z4:Nat) (z1:Prop)=>(fun (z0:Int) (z2:Nat)=>(fun (z3:Nat)=>(fun (z8:Bool)=>(decide ((1:Int)≤z5)=true→z7≤z5∧z5<z6∧z2<m∧R64 z0∧z7≤z0∧z0<z6∧z3<m∧(z8=true→z1)∧(z8=false→R64 z0∧R64 z0∧z7≤z0∧z0<z6∧z3<m∧z7≤z5∧z5<z6∧z2<m∧z7≤z5∧z5<z6∧z2<m∧z7≤z0∧z0<z6∧z3<m∧R64 z0∧(z4<n∧m=n∧n≤(100000:Nat))∧z4<j∧M.shL (fun z=>z.1) z4 (M.sw j z4 p)=M.shL (fun z=>z.1) j p∧(0:Nat)=(0:Nat)∧n=n∧(↑a:Int)=(↑a:Int)∧(↑b:Int)=(↑b:Int)∧(↑i:Int)=(↑i:Int)∧(↑c:Int)=(↑c:Int)∧z0=(↑z4:Int)∧m≤m∧(∀ (k:Nat),k<m→(bif decide (k=z3) then (p z2).1 else bif decide (k=z2) then (p z3).1 else (p k).1)=(M.sw j z4 p k).1∧(bif decide (k=z3) then (p z2).2 else bif decide (k=z2) then (p z3).2 else (p k).2)=(M.sw j z4 p k).2)∧True))∧(decide ((1:Int)≤z5)=false→z1)) (!decide (M.cmpI (p z2).1 (p z3).1<z7))) ((0:Nat)+Int.toNat z0)) (z5-(1:Int)) ((0:Nat)+Int.toNat z5)) (↑j:Int) (↑n:Int) (0:Int) (j-(1:Nat)) (false=false∧(0:Nat)=(0:Nat)∧n=n∧(↑a:Int)=(↑a:Int)∧(↑b:Int)=(↑b:Int)∧(↑i:Int)=(↑i:Int)∧(↑c:Int)=(↑c:Int)∧m≤m∧(∀ (k:Nat),k<m→(p k).1=(M.shL (fun z=>z.1) j p k).1∧(p k).2=(M.shL (fun z=>z.1) j p k).2)∧True)
theorem q125l (n m a b c i:Nat) (j0:Nat) (p0:Nat→Int × Int) (j:Nat) (p:Nat→Int × Int):VL true [] [(102,pureE e102)] YS.none Try.f125 1 [0,1,2,3,8,9,10,11,12,16,36,41,45,65,69,84,104,109,124] [] 4 (lp125l n m a b c i j0 p0) ((j,p))=Rq125l n m a b c i j0 p0 j p:=by kernel_rfl
theorem peq125l (n m a b c i:Nat) (j0:Nat) (p0:Nat→Int × Int) (j:Nat) (p:Nat→Int × Int):(lp125l n m a b c i j0 p0).pre ((j,p))=(j<n∧m=n∧n≤(100000:Nat)):=by kernel_rfl
theorem bq125l (n m a b c i:Nat) (j0:Nat) (p0:Nat→Int × Int) (j:Nat) (p:Nat→Int × Int) (hp:j<n∧m=n∧n≤(100000:Nat)):Rq125l n m a b c i j0 p0 j p:=by
 unfold Rq125l
 dsimp -iota -proj -eta -zeta only
 obtain ⟨h1,rfl,h5⟩:=id hp
 simp only [M.cmpI_lt,Nat.zero_add,Int.toNat_natCast]
 by_cases hl:1≤j
 ·have e1:((j:Int)-1).toNat=j-1:=by omega
  have e2:(j:Int)-1=((j-1:Nat):Int):=by omega
  have r2:R64 ((j-1:Nat):Int):=by unfold R64; omega
  have hl':(1:Int)≤j:=by omega
  simp only [e2,r2,Int.toNat_natCast,M.sw_f (f:=Prod.fst),M.sw_f (f:=Prod.snd)]
  by_cases hc:(p j).1<(p (j-1)).1
  ·have e:=M.shL_step (key:=fun z:Int × Int=>z.1) hl hc
   rw [e]
   simp [hl',hc]
   all_goals omega
  ·have e:=M.shL_stop (key:=fun z:Int × Int=>z.1) (j:=j) (q:=p) (fun _=>hc)
   rw [e]
   simp [hl',hc]
   all_goals omega
 ·have e:=M.shL_stop (key:=fun z:Int × Int=>z.1) (j:=j) (q:=p) (fun h=>absurd h hl)
  have hl':¬ (1:Int)≤j:=by omega
  rw [e]
  simp [hl']
theorem t125l (n m a b c i:Nat) (j0:Nat) (p0:Nat→Int × Int) {F:Fence} (hF:FOK F) (Y:YEnv PP YS.none):∀ Q A H nx,loopT false Try.f125.ntmps 1 (lp125l n m a b c i j0 p0) (fun _ _ _=>(j0,p0)) Q A H nx→WPS Y F Try.f125.ntmps 1 (.block 4 (blkAt 4 Try.f125)) Q A H nx :=
 loopW (E:=[]) (.nil) (O:=[(102,pureE e102)]) (.cons (pureE_ok s102) (.nil)) (ck:=true) (L:=[0,1,2,3,8,9,10,11,12,16,36,41,45,65,69,84,104,109,124]) (f:=Try.f125) (m:=1) (id:=4) (l:=(lp125l n m a b c i j0 p0)) (LI:=fun i=>[]) Y hF (by kernel_rfl) (fun _=>.nil) (by
  rintro ⟨j,p⟩ hp
  exact Hold.of (q125l n m a b c i j0 p0 j p) (bq125l n m a b c i j0 p0 j p ((peq125l n m a b c i j0 p0 j p).mp hp)))
def lp125r (n m a b c i:Nat) (j0:Nat) (p0:Nat→Int × Int):LoopS where
 ι:=Nat × (Nat→Int × Int)
 β:=Nat→Int × Int
 pre:=fun s=>1≤s.1∧b≤n∧m=n∧n≤100000
 μ:=fun s=>b-s.1
 next:=fun s _ _ _=>(s.1+1,M.sw s.1 (s.1-1) s.2)
 out:=fun s=>M.shR (fun z:Int × Int=>z.1) b (b-s.1) s.1 s.2
 early _:=false
 SA:=fun s=>[(0,.vec 0 2 0 n),(1,SI a),(2,SI b),(3,.fn 102 [] []),(9,SI i),(10,SI c),(12,SI s.1)]
 SH:=fun s=>[(0,.row 2 m (fun k=>[SI (s.2 k).1,SI (s.2 k).2]))]
 n0:=1
 NA _:=[(0,.vec 0 2 0 n),(1,SI a),(2,SI b),(3,.fn 102 [] []),(9,SI i),(10,SI c)]
 NH q:=[(0,.row 2 m (fun k=>[SI (q k).1,SI (q k).2]))]
 n1:=1
 RA _:=[]
 RH _:=[]
def Rq125r (n m a b c i:Nat) (j0:Nat) (p0:Nat→Int × Int) (j:Nat) (p:Nat→Int × Int):Prop:=(fun (z4 z6 z7 z9:Int) (z5:Nat)=>(fun (z0:Int) (z2:Nat) (z1:Prop)=>(fun (z3:Nat)=>(fun (z8:Bool)=>(decide (z4<z9)=true→z7≤z4∧z4<z6∧z2<m∧R64 z0∧z7≤z0∧z0<z6∧z3<m∧(z8=true→z1)∧(z8=false→R64 z0∧R64 z0∧z7≤z0∧z0<z6∧z3<m∧z7≤z4∧z4<z6∧z2<m∧z7≤z4∧z4<z6∧z2<m∧z7≤z0∧z0<z6∧z3<m∧R64 (z4+(1:Int))∧(z5≤j+z5∧b≤n∧m=n∧n≤(100000:Nat))∧b-(j+z5)<b-j∧M.shR (fun z=>z.1) b (b-(j+z5)) (j+z5) (M.sw j (j-z5) p)=M.shR (fun z=>z.1) b (b-j) j p∧(0:Nat)=(0:Nat)∧n=n∧(↑a:Int)=(↑a:Int)∧z9=z9∧(↑i:Int)=(↑i:Int)∧(↑c:Int)=(↑c:Int)∧z4+(1:Int)=(↑(j+z5):Int)∧m≤m∧(∀ (k:Nat),k<m→(bif decide (k=z3) then (p z2).1 else bif decide (k=z2) then (p z3).1 else (p k).1)=(M.sw j (j-z5) p k).1∧(bif decide (k=z3) then (p z2).2 else bif decide (k=z2) then (p z3).2 else (p k).2)=(M.sw j (j-z5) p k).2)∧True))∧(decide (z4<z9)=false→z1)) (!decide (M.cmpI (p z2).1 (p z3).1<z7))) ((0:Nat)+Int.toNat z0)) (z4-(1:Int)) ((0:Nat)+Int.toNat z4) (false=false∧(0:Nat)=(0:Nat)∧n=n∧(↑a:Int)=(↑a:Int)∧z9=z9∧(↑i:Int)=(↑i:Int)∧(↑c:Int)=(↑c:Int)∧m≤m∧(∀ (k:Nat),k<m→(p k).1=(M.shR (fun z=>z.1) b (b-j) j p k).1∧(p k).2=(M.shR (fun z=>z.1) b (b-j) j p k).2)∧True)) (↑j:Int) (↑n:Int) (0:Int) (↑b:Int) (1:Nat)
theorem q125r (n m a b c i:Nat) (j0:Nat) (p0:Nat→Int × Int) (j:Nat) (p:Nat→Int × Int):VL true [] [(102,pureE e102)] YS.none Try.f125 1 [0,1,2,3,8,9,10,11,12,16,36,41,45,65,69,84,104,109,124] [] 6 (lp125r n m a b c i j0 p0) ((j,p))=Rq125r n m a b c i j0 p0 j p:=by kernel_rfl
theorem peq125r (n m a b c i:Nat) (j0:Nat) (p0:Nat→Int × Int) (j:Nat) (p:Nat→Int × Int):(lp125r n m a b c i j0 p0).pre ((j,p))=((1:Nat)≤j∧b≤n∧m=n∧n≤(100000:Nat)):=by kernel_rfl
theorem bq125r (n m a b c i:Nat) (j0:Nat) (p0:Nat→Int × Int) (j:Nat) (p:Nat→Int × Int) (hp:(1:Nat)≤j∧b≤n∧m=n∧n≤(100000:Nat)):Rq125r n m a b c i j0 p0 j p:=by
 unfold Rq125r
 dsimp -iota -proj -eta -zeta only
 obtain ⟨h1,h2,rfl,h5⟩:=id hp
 simp only [M.cmpI_lt,Nat.zero_add,Int.toNat_natCast]
 have e2:(j:Int)-1=((j-1:Nat):Int):=by omega
 by_cases hl:j<b
 ·have r2:R64 ((j-1:Nat):Int):=by unfold R64; omega
  have r3:R64 ((j:Int)+1):=by unfold R64; omega
  simp only [e2,r2,r3,Int.toNat_natCast,M.sw_f (f:=Prod.fst),M.sw_f (f:=Prod.snd)]
  by_cases hc:(p j).1<(p (j-1)).1
  ·have e:=M.shR_step (key:=fun z:Int × Int=>z.1) hl hc
   rw [e]
   simp [hl,hc]
   all_goals omega
  ·have e:=M.shR_stop (key:=fun z:Int × Int=>z.1) (b:=b) (j:=j) (q:=p) (fun _=>hc)
   rw [e]
   simp [hl,hc]
   all_goals omega
 ·have e:=M.shR_stop (key:=fun z:Int × Int=>z.1) (b:=b) (j:=j) (q:=p) (fun h=>absurd h hl)
  rw [e]
  simp [hl]
theorem t125r (n m a b c i:Nat) (j0:Nat) (p0:Nat→Int × Int) {F:Fence} (hF:FOK F) (Y:YEnv PP YS.none):∀ Q A H nx,loopT false Try.f125.ntmps 1 (lp125r n m a b c i j0 p0) (fun _ _ _=>(j0,p0)) Q A H nx→WPS Y F Try.f125.ntmps 1 (.block 6 (blkAt 6 Try.f125)) Q A H nx :=
 loopW (E:=[]) (.nil) (O:=[(102,pureE e102)]) (.cons (pureE_ok s102) (.nil)) (ck:=true) (L:=[0,1,2,3,8,9,10,11,12,16,36,41,45,65,69,84,104,109,124]) (f:=Try.f125) (m:=1) (id:=6) (l:=(lp125r n m a b c i j0 p0)) (LI:=fun i=>[]) Y hF (by kernel_rfl) (fun _=>.nil) (by
  rintro ⟨j,p⟩ hp
  exact Hold.of (q125r n m a b c i j0 p0 j p) (bq125r n m a b c i j0 p0 j p ((peq125r n m a b c i j0 p0 j p).mp hp)))
def lp125m (n m a b:Nat) (p0:Nat→Int × Int):LoopS where
 ι:=Nat × Nat × (Nat→Int × Int)
 β:=Bool × (Nat→Int × Int) × Bool
 pre:=fun s=>s.1≤5∧a<s.2.1∧s.2.1≤b∧b≤n∧m=n∧n≤100000
 μ:=fun s=>5-s.1
 next:=fun s _ _ _=>(s.1+1,M.pisI (fun z:Int × Int=>z.1) b s.2.1 s.2.2,M.pisP (fun z:Int × Int=>z.1) a b (M.pisI (fun z:Int × Int=>z.1) b s.2.1 s.2.2) s.2.2)
 out:=fun s=>(M.pisX (fun z:Int × Int=>z.1) a b (5-s.1) s.2.1 s.2.2,M.pis (fun z:Int × Int=>z.1) a b (5-s.1) s.2.1 s.2.2)
 early b:=b.1
 SA:=fun s=>[(0,.vec 0 2 0 n),(1,SI a),(2,SI b),(3,.fn 102 [] []),(9,SI s.2.1),(10,SI s.1)]
 SH:=fun s=>[(0,.row 2 m (fun k=>[SI (s.2.2 k).1,SI (s.2.2 k).2]))]
 n0:=1
 NA _:=[]
 NH q:=[(0,.row 2 m (fun k=>[SI (q.2.1 k).1,SI (q.2.1 k).2]))]
 n1:=1
 RA q:=[(8,.bool q.2.2)]
 RH q:=[(0,.row 2 m (fun k=>[SI (q.2.1 k).1,SI (q.2.1 k).2]))]
def Rq125m (n m a b:Nat) (p0:Nat→Int × Int) (c i:Nat) (p:Nat→Int × Int):Prop:=(fun (z7 z11 z12 z15:Int) (z1 z16 z20:Nat) (z10 z14:Prop)=>(fun (z9:Bool) (z0 z13:Int) (z8:Nat) (z4 z17:Prop)=>(fun (z19:Int) (z5:Nat) (z6 z18:Prop)=>(fun (z3:Nat) (z2:Prop)=>(decide (z12<(5:Int))=true→(a<i∧i≤b∧z10)∧(z14∧n=n∧z11=z11∧z7=z7∧(↑i:Int)=(↑i:Int)∧z12=z12∧m≤m∧(∀ (k:Nat),k<m→(p k).1=(p k).1∧(p k).2=(p k).2)∧True)∧(false=false→(decide (z0=z7)=true→z9=true∧true=(M.pis (fun z=>z.1) a b z20 i p).2∧z4)∧(decide (z0=z7)=false→R64 (z7-z11)∧(decide (z7-z11<(50:Int))=true→z9=true∧false=(M.pis (fun z=>z.1) a b z20 i p).2∧z4)∧(decide (z7-z11<(50:Int))=false→R64 z19∧R64 z19∧(0:Int)≤z19∧z19<(↑n:Int)∧z3<m∧(0:Int)≤z0∧z0<(↑n:Int)∧z5<m∧(0:Int)≤z0∧z0<(↑n:Int)∧z5<m∧(0:Int)≤z19∧z19<(↑n:Int)∧z3<m∧R64 (z0-z11)∧(decide ((2:Int)≤z0-z11)=true→R64 z19∧(z8<n∧m=n∧n≤(100000:Nat))∧(z14∧n=n∧z11=z11∧z7=z7∧z0=z13∧z12=z12∧z19=(↑z8:Int)∧m≤m∧(∀ (k:Nat),k<m→(bif decide (k=z3) then (p z5).1 else bif decide (k=z5) then (p z3).1 else (p k).1)=(M.sw z1 z8 p k).1∧(bif decide (k=z3) then (p z5).2 else bif decide (k=z5) then (p z3).2 else (p k).2)=(M.sw z1 z8 p k).2)∧True)∧(false=false→R64 (z7-z13)∧(decide ((2:Int)≤z7-z13)=true→R64 (z13+z15)∧(z16≤z1+z16∧z10)∧(z14∧n=n∧z11=z11∧z7=z7∧z13=z13∧z12=z12∧z13+z15=(↑(z1+z16):Int)∧m≤m∧(∀ (k:Nat),k<m→(M.shL (fun z=>z.1) z8 (M.sw z1 z8 p) k).1=(M.pisA (fun z=>z.1) a z1 (M.sw z1 z8 p) k).1∧(M.shL (fun z=>z.1) z8 (M.sw z1 z8 p) k).2=(M.pisA (fun z=>z.1) a z1 (M.sw z1 z8 p) k).2)∧True)∧z2)∧(decide ((2:Int)≤z7-z13)=false→R64 (z12+z15)∧z17∧(5:Nat)-(c+z16)<z20∧z6∧z14∧n=n∧z11=z11∧z7=z7∧z13=z13∧z12+z15=(↑(c+z16):Int)∧m≤m∧(∀ (k:Nat),k<m→(M.shL (fun z=>z.1) z8 (M.sw z1 z8 p) k).1=(M.pisP (fun z=>z.1) a b z1 p k).1∧(M.shL (fun z=>z.1) z8 (M.sw z1 z8 p) k).2=(M.pisP (fun z=>z.1) a b z1 p k).2)∧True))∧z18)∧(decide ((2:Int)≤z0-z11)=false→R64 (z7-z0)∧(decide ((2:Int)≤z7-z0)=true→R64 (z0+z15)∧(z16≤z1+z16∧z10)∧(z14∧n=n∧z11=z11∧z7=z7∧z0=z13∧z12=z12∧z0+z15=(↑(z1+z16):Int)∧m≤m∧(∀ (k:Nat),k<m→(bif decide (k=z3) then (p z5).1 else bif decide (k=z5) then (p z3).1 else (p k).1)=(M.pisA (fun z=>z.1) a z1 (M.sw z1 z8 p) k).1∧(bif decide (k=z3) then (p z5).2 else bif decide (k=z5) then (p z3).2 else (p k).2)=(M.pisA (fun z=>z.1) a z1 (M.sw z1 z8 p) k).2)∧True)∧z2)∧(decide ((2:Int)≤z7-z0)=false→R64 (z12+z15)∧z17∧(5:Nat)-(c+z16)<z20∧z6∧z14∧n=n∧z11=z11∧z7=z7∧z0=z13∧z12+z15=(↑(c+z16):Int)∧m≤m∧(∀ (k:Nat),k<m→(bif decide (k=z3) then (p z5).1 else bif decide (k=z5) then (p z3).1 else (p k).1)=(M.pisP (fun z=>z.1) a b z1 p k).1∧(bif decide (k=z3) then (p z5).2 else bif decide (k=z5) then (p z3).2 else (p k).2)=(M.pisP (fun z=>z.1) a b z1 p k).2)∧True)))))∧z18)∧(decide (z12<(5:Int))=false→z9=false∧z4)) ((0:Nat)+Int.toNat z19) ((false=false→R64 (z12+z15)∧z17∧(5:Nat)-(c+z16)<z20∧z6∧z14∧n=n∧z11=z11∧z7=z7∧z13=z13∧z12+z15=(↑(c+z16):Int)∧m≤m∧(∀ (k:Nat),k<m→(M.shR (fun z=>z.1) b (b-(z1+z16)) (z1+z16) (M.pisA (fun z=>z.1) a z1 (M.sw z1 z8 p)) k).1=(M.pisP (fun z=>z.1) a b z1 p k).1∧(M.shR (fun z=>z.1) b (b-(z1+z16)) (z1+z16) (M.pisA (fun z=>z.1) a z1 (M.sw z1 z8 p)) k).2=(M.pisP (fun z=>z.1) a b z1 p k).2)∧True)∧z18)) (z0-z15) ((0:Nat)+Int.toNat z0) ((M.pisX (fun z=>z.1) a b ((5:Nat)-(c+z16)) z1 (M.pisP (fun z=>z.1) a b z1 p),M.pis (fun z=>z.1) a b ((5:Nat)-(c+z16)) z1 (M.pisP (fun z=>z.1) a b z1 p))=(z9,M.pis (fun z=>z.1) a b z20 i p)) (false=true→z9=true∧False∧False)) (M.pisX (fun z=>z.1) a b z20 i p) (↑(M.pUp (fun k=>!decide ((p k).1<(p (k-z16)).1)) b (b-i) i):Int) (↑z1:Int) (z1-z16) (m≤m∧(∀ (k:Nat),k<m→(p k).1=((M.pis (fun z=>z.1) a b z20 i p).1 k).1∧(p k).2=((M.pis (fun z=>z.1) a b z20 i p).1 k).2)∧True) (c+z16≤(5:Nat)∧a<z1∧z1≤b∧z10)) (↑b:Int) (↑a:Int) (↑c:Int) (1:Int) (M.pisI (fun z=>z.1) b i p) (1:Nat) ((5:Nat)-c) (b≤n∧m=n∧n≤(100000:Nat)) ((0:Nat)=(0:Nat))
theorem q125m (n m a b:Nat) (p0:Nat→Int × Int) (c i:Nat) (p:Nat→Int × Int):VL true [] [(102,pureE e102)] YS.none Try.f125 1 [0,1,2,3,8,9,10,11,12,16,36,41,45,65,69,84,104,109,124] [(2,loopT false Try.f125.ntmps 1 (lp125s n m a b c i p) (fun _ _ _=>i)),(4,loopT false Try.f125.ntmps 1 (lp125l n m a b c (M.pisI (fun z:Int × Int=>z.1) b i p) ((M.pisI (fun z:Int × Int=>z.1) b i p)-1) (M.sw (M.pisI (fun z:Int × Int=>z.1) b i p) ((M.pisI (fun z:Int × Int=>z.1) b i p)-1) p)) (fun _ _ _=>(((M.pisI (fun z:Int × Int=>z.1) b i p)-1),(M.sw (M.pisI (fun z:Int × Int=>z.1) b i p) ((M.pisI (fun z:Int × Int=>z.1) b i p)-1) p)))),(6,loopT false Try.f125.ntmps 1 (lp125r n m a b c (M.pisI (fun z:Int × Int=>z.1) b i p) ((M.pisI (fun z:Int × Int=>z.1) b i p)+1) (M.pisA (fun z:Int × Int=>z.1) a (M.pisI (fun z:Int × Int=>z.1) b i p) (M.sw (M.pisI (fun z:Int × Int=>z.1) b i p) ((M.pisI (fun z:Int × Int=>z.1) b i p)-1) p))) (fun _ _ _=>(((M.pisI (fun z:Int × Int=>z.1) b i p)+1),(M.pisA (fun z:Int × Int=>z.1) a (M.pisI (fun z:Int × Int=>z.1) b i p) (M.sw (M.pisI (fun z:Int × Int=>z.1) b i p) ((M.pisI (fun z:Int × Int=>z.1) b i p)-1) p)))))] 0 (lp125m n m a b p0) ((c,i,p))=Rq125m n m a b p0 c i p:=by kernel_rfl
theorem peq125m (n m a b:Nat) (p0:Nat→Int × Int) (c i:Nat) (p:Nat→Int × Int):(lp125m n m a b p0).pre ((c,i,p))=(c≤(5:Nat)∧a<i∧i≤b∧b≤n∧m=n∧n≤(100000:Nat)):=by kernel_rfl
theorem bq125m (n m a b:Nat) (p0:Nat→Int × Int) (c i:Nat) (p:Nat→Int × Int) (hp:c≤(5:Nat)∧a<i∧i≤b∧b≤n∧m=n∧n≤(100000:Nat)):Rq125m n m a b p0 c i p:=by
 unfold Rq125m
 dsimp -iota -proj -eta -zeta only
 obtain ⟨hc,ha,hi,hb,rfl,hn⟩:=id hp
 have eI:M.pUp (fun k=>!decide ((p k).1<(p (k-1)).1)) b (b-i) i=(M.pisI (fun z:Int × Int=>z.1) b i p):=rfl
 obtain ⟨i1,i2⟩:=M.pisI_in (key:=(fun z:Int × Int=>z.1)) (p:=p) hi
 simp only [eI]
 by_cases h5:c<5
 ·have hX:M.pisX (fun z:Int × Int=>z.1) a b (5-c) i p=if (M.pisI (fun z:Int × Int=>z.1) b i p)=b then true else if b-a<50 then true else M.pisX (fun z:Int × Int=>z.1) a b (5-(c+1)) (M.pisI (fun z:Int × Int=>z.1) b i p) (M.pisP (fun z:Int × Int=>z.1) a b (M.pisI (fun z:Int × Int=>z.1) b i p) p):=by
   rw [show 5-c=5-(c+1)+1 by omega]; rfl
  have hQ:M.pis (fun z:Int × Int=>z.1) a b (5-c) i p=if (M.pisI (fun z:Int × Int=>z.1) b i p)=b then (p,true) else if b-a<50 then (p,false) else M.pis (fun z:Int × Int=>z.1) a b (5-(c+1)) (M.pisI (fun z:Int × Int=>z.1) b i p) (M.pisP (fun z:Int × Int=>z.1) a b (M.pisI (fun z:Int × Int=>z.1) b i p) p):=by
   rw [show 5-c=5-(c+1)+1 by omega]; rfl
  have rab:R64 ((b:Int)-a):=by unfold R64; omega
  have h5':(c:Int)<5:=by omega
  by_cases hI:(M.pisI (fun z:Int × Int=>z.1) b i p)=b
  ·rw [if_pos hI] at hX hQ
   have hI':((M.pisI (fun z:Int × Int=>z.1) b i p):Int)=b:=by omega
   rw [hX,hQ]
   simp only [hI']
   simp [h5']
   omega
  ·rw [if_neg hI] at hX hQ
   have hI':¬ ((M.pisI (fun z:Int × Int=>z.1) b i p):Int)=b:=by omega
   by_cases h50:b-a<50
   ·rw [if_pos h50] at hX hQ
    have h50':(b:Int)-a<50:=by omega
    rw [hX,hQ]
    simp [h5',hI',h50',rab]
    omega
   ·rw [if_neg h50] at hX hQ
    have h50':¬ (b:Int)-a<50:=by omega
    rw [hX,hQ]
    have e1:((M.pisI (fun z:Int × Int=>z.1) b i p):Int)-1=(((M.pisI (fun z:Int × Int=>z.1) b i p)-1:Nat):Int):=by omega
    have r1:R64 (((M.pisI (fun z:Int × Int=>z.1) b i p)-1:Nat):Int):=by unfold R64; omega
    have r2:R64 (((M.pisI (fun z:Int × Int=>z.1) b i p):Int)+1):=by unfold R64; omega
    have r3:R64 (((M.pisI (fun z:Int × Int=>z.1) b i p):Int)-a):=by unfold R64; omega
    have r4:R64 ((b:Int)-(M.pisI (fun z:Int × Int=>z.1) b i p)):=by unfold R64; omega
    have r5:R64 ((c:Int)+1):=by unfold R64; omega
    simp only [e1,r1,r2,r3,r4,r5,rab,Int.toNat_natCast,Nat.zero_add,M.sw_f (f:=Prod.fst),M.sw_f (f:=Prod.snd)]
    have eP:M.pisP (fun z:Int × Int=>z.1) a b (M.pisI (fun z:Int × Int=>z.1) b i p) p=M.pisB (fun z:Int × Int=>z.1) b (M.pisI (fun z:Int × Int=>z.1) b i p) (M.pisA (fun z:Int × Int=>z.1) a (M.pisI (fun z:Int × Int=>z.1) b i p) (M.sw (M.pisI (fun z:Int × Int=>z.1) b i p) ((M.pisI (fun z:Int × Int=>z.1) b i p)-1) p)):=rfl
    by_cases g1:2≤(M.pisI (fun z:Int × Int=>z.1) b i p)-a
    ·have g1':(2:Int)≤((M.pisI (fun z:Int × Int=>z.1) b i p):Int)-a:=by omega
     have eA:M.pisA (fun z:Int × Int=>z.1) a (M.pisI (fun z:Int × Int=>z.1) b i p) (M.sw (M.pisI (fun z:Int × Int=>z.1) b i p) ((M.pisI (fun z:Int × Int=>z.1) b i p)-1) p)=M.shL (fun z:Int × Int=>z.1) ((M.pisI (fun z:Int × Int=>z.1) b i p)-1) (M.sw (M.pisI (fun z:Int × Int=>z.1) b i p) ((M.pisI (fun z:Int × Int=>z.1) b i p)-1) p):=by unfold M.pisA; rw [if_pos g1]
     by_cases g2:2≤b-(M.pisI (fun z:Int × Int=>z.1) b i p)
     ·have g2':(2:Int)≤(b:Int)-(M.pisI (fun z:Int × Int=>z.1) b i p):=by omega
      have eB:M.pisB (fun z:Int × Int=>z.1) b (M.pisI (fun z:Int × Int=>z.1) b i p) (M.pisA (fun z:Int × Int=>z.1) a (M.pisI (fun z:Int × Int=>z.1) b i p) (M.sw (M.pisI (fun z:Int × Int=>z.1) b i p) ((M.pisI (fun z:Int × Int=>z.1) b i p)-1) p))=M.shR (fun z:Int × Int=>z.1) b (b-((M.pisI (fun z:Int × Int=>z.1) b i p)+1)) ((M.pisI (fun z:Int × Int=>z.1) b i p)+1) (M.pisA (fun z:Int × Int=>z.1) a (M.pisI (fun z:Int × Int=>z.1) b i p) (M.sw (M.pisI (fun z:Int × Int=>z.1) b i p) ((M.pisI (fun z:Int × Int=>z.1) b i p)-1) p)):=by unfold M.pisB; rw [if_pos g2]
      rw [eP,eB,eA]
      simp [h5',hI',h50',g1',g2']
      all_goals omega
     ·have g2':¬ (2:Int)≤(b:Int)-(M.pisI (fun z:Int × Int=>z.1) b i p):=by omega
      have eB:M.pisB (fun z:Int × Int=>z.1) b (M.pisI (fun z:Int × Int=>z.1) b i p) (M.pisA (fun z:Int × Int=>z.1) a (M.pisI (fun z:Int × Int=>z.1) b i p) (M.sw (M.pisI (fun z:Int × Int=>z.1) b i p) ((M.pisI (fun z:Int × Int=>z.1) b i p)-1) p))=M.pisA (fun z:Int × Int=>z.1) a (M.pisI (fun z:Int × Int=>z.1) b i p) (M.sw (M.pisI (fun z:Int × Int=>z.1) b i p) ((M.pisI (fun z:Int × Int=>z.1) b i p)-1) p):=by unfold M.pisB; rw [if_neg g2]
      rw [eP,eB,eA]
      simp [h5',hI',h50',g1',g2']
      all_goals omega
    ·have g1':¬ (2:Int)≤((M.pisI (fun z:Int × Int=>z.1) b i p):Int)-a:=by omega
     have eA:M.pisA (fun z:Int × Int=>z.1) a (M.pisI (fun z:Int × Int=>z.1) b i p) (M.sw (M.pisI (fun z:Int × Int=>z.1) b i p) ((M.pisI (fun z:Int × Int=>z.1) b i p)-1) p)=(M.sw (M.pisI (fun z:Int × Int=>z.1) b i p) ((M.pisI (fun z:Int × Int=>z.1) b i p)-1) p):=by unfold M.pisA; rw [if_neg g1]
     by_cases g2:2≤b-(M.pisI (fun z:Int × Int=>z.1) b i p)
     ·have g2':(2:Int)≤(b:Int)-(M.pisI (fun z:Int × Int=>z.1) b i p):=by omega
      have eB:M.pisB (fun z:Int × Int=>z.1) b (M.pisI (fun z:Int × Int=>z.1) b i p) (M.pisA (fun z:Int × Int=>z.1) a (M.pisI (fun z:Int × Int=>z.1) b i p) (M.sw (M.pisI (fun z:Int × Int=>z.1) b i p) ((M.pisI (fun z:Int × Int=>z.1) b i p)-1) p))=M.shR (fun z:Int × Int=>z.1) b (b-((M.pisI (fun z:Int × Int=>z.1) b i p)+1)) ((M.pisI (fun z:Int × Int=>z.1) b i p)+1) (M.pisA (fun z:Int × Int=>z.1) a (M.pisI (fun z:Int × Int=>z.1) b i p) (M.sw (M.pisI (fun z:Int × Int=>z.1) b i p) ((M.pisI (fun z:Int × Int=>z.1) b i p)-1) p)):=by unfold M.pisB; rw [if_pos g2]
      rw [eP,eB,eA]
      simp [h5',hI',h50',g1',g2']
      all_goals omega
     ·have g2':¬ (2:Int)≤(b:Int)-(M.pisI (fun z:Int × Int=>z.1) b i p):=by omega
      have eB:M.pisB (fun z:Int × Int=>z.1) b (M.pisI (fun z:Int × Int=>z.1) b i p) (M.pisA (fun z:Int × Int=>z.1) a (M.pisI (fun z:Int × Int=>z.1) b i p) (M.sw (M.pisI (fun z:Int × Int=>z.1) b i p) ((M.pisI (fun z:Int × Int=>z.1) b i p)-1) p))=M.pisA (fun z:Int × Int=>z.1) a (M.pisI (fun z:Int × Int=>z.1) b i p) (M.sw (M.pisI (fun z:Int × Int=>z.1) b i p) ((M.pisI (fun z:Int × Int=>z.1) b i p)-1) p):=by unfold M.pisB; rw [if_neg g2]
      rw [eP,eB,eA]
      simp [h5',hI',h50',g1',g2']
      all_goals omega
 ·have e:5-c=0:=by omega
  have h5':¬ (c:Int)<5:=by omega
  rw [e]
  simp [h5',M.pisX,M.pis]
theorem t125m (n m a b:Nat) (p0:Nat→Int × Int) {F:Fence} (hF:FOK F) (Y:YEnv PP YS.none):∀ Q A H nx,loopT false Try.f125.ntmps 1 (lp125m n m a b p0) (fun _ _ _=>((0:Nat),a+1,p0)) Q A H nx→WPS Y F Try.f125.ntmps 1 (.block 0 (blkAt 0 Try.f125)) Q A H nx :=
 loopW (E:=[]) (.nil) (O:=[(102,pureE e102)]) (.cons (pureE_ok s102) (.nil)) (ck:=true) (L:=[0,1,2,3,8,9,10,11,12,16,36,41,45,65,69,84,104,109,124]) (f:=Try.f125) (m:=1) (id:=0) (l:=(lp125m n m a b p0)) (LI:=fun | (c,i,p)=>[(2,loopT false Try.f125.ntmps 1 (lp125s n m a b c i p) (fun _ _ _=>i)),(4,loopT false Try.f125.ntmps 1 (lp125l n m a b c (M.pisI (fun z:Int × Int=>z.1) b i p) ((M.pisI (fun z:Int × Int=>z.1) b i p)-1) (M.sw (M.pisI (fun z:Int × Int=>z.1) b i p) ((M.pisI (fun z:Int × Int=>z.1) b i p)-1) p)) (fun _ _ _=>(((M.pisI (fun z:Int × Int=>z.1) b i p)-1),(M.sw (M.pisI (fun z:Int × Int=>z.1) b i p) ((M.pisI (fun z:Int × Int=>z.1) b i p)-1) p)))),(6,loopT false Try.f125.ntmps 1 (lp125r n m a b c (M.pisI (fun z:Int × Int=>z.1) b i p) ((M.pisI (fun z:Int × Int=>z.1) b i p)+1) (M.pisA (fun z:Int × Int=>z.1) a (M.pisI (fun z:Int × Int=>z.1) b i p) (M.sw (M.pisI (fun z:Int × Int=>z.1) b i p) ((M.pisI (fun z:Int × Int=>z.1) b i p)-1) p))) (fun _ _ _=>(((M.pisI (fun z:Int × Int=>z.1) b i p)+1),(M.pisA (fun z:Int × Int=>z.1) a (M.pisI (fun z:Int × Int=>z.1) b i p) (M.sw (M.pisI (fun z:Int × Int=>z.1) b i p) ((M.pisI (fun z:Int × Int=>z.1) b i p)-1) p)))))]) Y hF (by kernel_rfl) (fun | (c,i,p)=>.cons (by kernel_rfl) (t125s n m a b c i p hF Y) (.cons (by kernel_rfl) (t125l n m a b c (M.pisI (fun z:Int × Int=>z.1) b i p) ((M.pisI (fun z:Int × Int=>z.1) b i p)-1) (M.sw (M.pisI (fun z:Int × Int=>z.1) b i p) ((M.pisI (fun z:Int × Int=>z.1) b i p)-1) p) hF Y) (.cons (by kernel_rfl) (t125r n m a b c (M.pisI (fun z:Int × Int=>z.1) b i p) ((M.pisI (fun z:Int × Int=>z.1) b i p)+1) (M.pisA (fun z:Int × Int=>z.1) a (M.pisI (fun z:Int × Int=>z.1) b i p) (M.sw (M.pisI (fun z:Int × Int=>z.1) b i p) ((M.pisI (fun z:Int × Int=>z.1) b i p)-1) p)) hF Y) (.nil)))) (by
  rintro ⟨c,i,p⟩ hp
  exact Hold.of (q125m n m a b p0 c i p) (bq125m n m a b p0 c i p ((peq125m n m a b p0 c i p).mp hp)))
def e125:EntB
 | [.vec 0 2 0 n,.int .i64 a,.int .i64 b,.fn 102 [] []],[.row 2 m g_1]=>some ([Row 2 m g_1,m=n,n≤100000,0≤a,a<b,b≤n],.bool ((M.pis (fun z:Int × Int=>z.1) a.toNat b.toNat 5 (a.toNat+1) (pr2 g_1)).2),[.row 2 m (fun k=>[SI (((M.pis (fun z:Int × Int=>z.1) a.toNat b.toNat 5 (a.toNat+1) (pr2 g_1)).1) k).1,SI (((M.pis (fun z:Int × Int=>z.1) a.toNat b.toNat 5 (a.toNat+1) (pr2 g_1)).1) k).2])])
 | _,_=>none
def Rr125 (n m:Nat) (a b:Int) (p:Nat→Int × Int):Prop:=(fun (z3 z4:Nat)=>(fun (z1:Nat)=>(fun (z2:Bool) (z0:Prop)=>R64 (a+(1:Int))∧((0:Nat)≤(5:Nat)∧z4<z1∧z1≤z3∧z3≤n∧m=n∧n≤(100000:Nat))∧((0:Nat)=(0:Nat)∧n=n∧a=(↑z4:Int)∧b=(↑z3:Int)∧a+(1:Int)=(↑z1:Int)∧(0:Int)=(↑(0:Nat):Int)∧m≤m∧(∀ (k:Nat),k<m→(p k).1=(p k).1∧(p k).2=(p k).2)∧True)∧(z2=false→z0∧false=(M.pis (fun z=>z.1) z4 z3 (5:Nat) z1 p).2)∧(z2=true→z0∧(M.pis (fun z=>z.1) z4 z3 ((5:Nat)-(0:Nat)) z1 p).2=(M.pis (fun z=>z.1) z4 z3 (5:Nat) z1 p).2)) (M.pisX (fun z=>z.1) z4 z3 ((5:Nat)-(0:Nat)) z1 p) (m≤m∧∀ (k:Nat),k<m→((M.pis (fun z=>z.1) z4 z3 ((5:Nat)-(0:Nat)) z1 p).1 k).1=((M.pis (fun z=>z.1) z4 z3 (5:Nat) z1 p).1 k).1∧((M.pis (fun z=>z.1) z4 z3 ((5:Nat)-(0:Nat)) z1 p).1 k).2=((M.pis (fun z=>z.1) z4 z3 (5:Nat) z1 p).1 k).2)) (z4+(1:Nat))) (Int.toNat b) (Int.toNat a)
theorem r125 (n m:Nat) (a b:Int) (p:Nat→Int × Int):VB true [] [] Try.f125 [0,1,2,3,8,9,10,11,12,16,36,41,45,65,69,84,104,109,124] [(0,loopT false Try.f125.ntmps 1 (lp125m n m a.toNat b.toNat p) (fun _ _ _=>((0:Nat),a.toNat+1,p)))] [.vec 0 2 0 n,SI a,SI b,.fn 102 [] []] [.row 2 m (fun k=>[SI (p k).1,SI (p k).2])] (.bool ((M.pis (fun z:Int × Int=>z.1) a.toNat b.toNat 5 (a.toNat+1) p).2)) [.row 2 m (fun k=>[SI (((M.pis (fun z:Int × Int=>z.1) a.toNat b.toNat 5 (a.toNat+1) p).1) k).1,SI (((M.pis (fun z:Int × Int=>z.1) a.toNat b.toNat 5 (a.toNat+1) p).1) k).2])]=Rr125 n m a b p:=by kernel_rfl
theorem br125 (n m:Nat) (a b:Int) (p:Nat→Int × Int) (hp:(m=n)∧(n≤100000)∧(0≤a)∧(a<b)∧(b≤n)∧AllP []):Rr125 n m a b p:=by
 unfold Rr125
 dsimp -iota -proj -eta -zeta only
 obtain ⟨rfl,h2,h3,h4,h5,-⟩:=id hp
 obtain ⟨A,rfl⟩:=Int.eq_ofNat_of_zero_le h3
 obtain ⟨B,rfl⟩:=Int.eq_ofNat_of_zero_le (show 0≤b by omega)
 simp only [Int.toNat_natCast]
 have r1:R64 ((A:Int)+1):=by unfold R64; omega
 have no:=@M.pisX_no (Int × Int) (fun z:Int × Int=>z.1) A B 5 (A+1) p
 cases hx:M.pisX (fun z:Int × Int=>z.1) A B 5 (A+1) p
 ·have:=no hx
  simp [r1,hx,this]
  omega
 ·simp [r1,hx]
  omega
theorem s125:SpecOK PP 125 e125:=by
 intro xs Hs ps res Hs1 h hp
 unfold e125 at h
 split at h
 ·rename_i n a b m g_1
  cases h
  simp only [AllP.cons] at hp
  obtain ⟨Hg_1,hp⟩:=hp
  exact Spec.blocks (enterBH (Hold.of (r125 n m a b (pr2 g_1)) (br125 n m a b (pr2 g_1) hp)) (.nil) (.nil) (k:=125) (by kernel_rfl) (by kernel_rfl) rfl (fun Y=>.cons (by kernel_rfl) (t125m n m a.toNat b.toNat (pr2 g_1) FOK.wide Y) (.nil))) (.row Hg_1 (fun _=>rfl) .nil)
 ·cases h
end Go.Proofs.Ytoncoofmijjgeaa.Sep
namespace Go.Proofs.Ytoncoofmijjgeaa.M
open Go
def blen (x : Int) : Int := (Lib.bitLen x.toNat : Int)
def xa (r : Int) : Int := IntKind.wrap .u64 (((BitVec.ofInt (IntKind.bits .u64) r ^^^ BitVec.ofInt (IntKind.bits .u64) (IntKind.wrap .u64 (r * 2 ^ min (Int.toNat 13) (IntKind.bits .u64)))).toNat : Nat) : Int)
def xb (r : Int) : Int := IntKind.wrap .u64 (((BitVec.ofInt (IntKind.bits .u64) r ^^^ BitVec.ofInt (IntKind.bits .u64) (Int.fdiv r (2 ^ min (Int.toNat 7) (IntKind.bits .u64)))).toNat : Nat) : Int)
def xc (r : Int) : Int := IntKind.wrap .u64 (((BitVec.ofInt (IntKind.bits .u64) r ^^^ BitVec.ofInt (IntKind.bits .u64) (IntKind.wrap .u64 (r * 2 ^ min (Int.toNat 17) (IntKind.bits .u64)))).toNat : Nat) : Int)
def xsN (r : Int) : Int := xc (xb (xa r))
def xr (l : Int) : Nat → Int
  | 0 => IntKind.wrap .u64 l
  | t + 1 => xsN (xr l t)
def npo (l : Int) : Int := IntKind.wrap .u64 (1 * 2 ^ min (Int.toNat (blen (IntKind.wrap .u64 l))) (IntKind.bits .u64))
def oraw (l : Int) (t : Nat) : Int := IntKind.wrap .u64 (((BitVec.ofInt (IntKind.bits .u64) (xr l (t + 1)) &&& BitVec.ofInt (IntKind.bits .u64) (IntKind.wrap .u64 (npo l - 1))).toNat : Nat) : Int)
def oth (l t : Nat) : Nat := (if (l : Int) ≤ oraw l t then oraw l t - l else oraw l t).toNat % l
theorem npo_ok : ∀ l : Nat, l < 201 → 8 ≤ l → npo l ≤ 2 * l ∧ 1 ≤ npo l ∧ ((BitVec.ofInt (IntKind.bits .u64) (IntKind.wrap .u64 (npo l - 1))).toNat : Int) = npo l - 1 ∧ 0 ≤ blen (IntKind.wrap .u64 l) := by decide +kernel
theorem oraw_in {l t : Nat} (h1 : 8 ≤ l) (h2 : l ≤ 200) : 0 ≤ oraw l t ∧ oraw l t < 2 * l := by
  obtain ⟨g1, g2, g3, -⟩ := npo_ok l (by omega) h1
  have h : (BitVec.ofInt (IntKind.bits .u64) (xr l (t + 1)) &&& BitVec.ofInt (IntKind.bits .u64) (IntKind.wrap .u64 (npo l - 1))).toNat ≤ (BitVec.ofInt (IntKind.bits .u64) (IntKind.wrap .u64 (npo l - 1))).toNat := by
    rw [BitVec.toNat_and]; exact Nat.and_le_right
  unfold oraw
  generalize (BitVec.ofInt (IntKind.bits .u64) (xr l (t + 1)) &&& BitVec.ofInt (IntKind.bits .u64) (IntKind.wrap .u64 (npo l - 1))).toNat = z at *
  have e : IntKind.wrap .u64 (z : Int) = z := by
    simp only [IntKind.wrap, IntKind.bits, IntKind.signed]
    simp
    omega
  rw [e]
  omega
theorem oth_lt {l t : Nat} (h : 8 ≤ l) : oth l t < l := Nat.mod_lt _ (by omega)
theorem oth_eq {l t : Nat} (h1 : 8 ≤ l) (h2 : l ≤ 200) : (oth l t : Int) = if (l : Int) ≤ oraw l t then oraw l t - l else oraw l t := by
  obtain ⟨g1, g2⟩ := @oraw_in l t h1 h2
  unfold oth
  have : (if (l : Int) ≤ oraw l t then oraw l t - l else oraw l t).toNat < l := by split <;> omega
  rw [Nat.mod_eq_of_lt this]
  split <;> omega
end Go.Proofs.Ytoncoofmijjgeaa.M
namespace Go.Proofs.Ytoncoofmijjgeaa.Sep
open Go
set_option maxHeartbeats 4000000 in
set_option maxRecDepth 100000 in
theorem bits_Len64 (x : Int) (w : World) (h0 : 0 ≤ x) (h1 : x ≤ 18446744073709551615) :
    Calls Try.prog 129 #[.int .u64 x] w fun e w' => e = .returned (.int .i64 (Lib.bitLen x.toNat)) ∧ w' = w := by
  go_enter Try.func129, Try.ntmps129
  go_wp2
  all_goals (go_ret; refine ⟨congrArg Ending.returned (congrArg (Value.int IntKind.i64) ?_), rfl⟩)
  all_goals first
    | (rw [Lib.len8_of (x / 4294967296 / 65536 / 256 % 256) (by omega) (by omega)]
       have e : (x / 4294967296 / 65536 / 256 % 256).toNat = x.toNat / 72057594037927936 := by omega
       have l := Lib.bitLen_le8' (x / 4294967296 / 65536 / 256 % 256) (by omega) (by omega)
       have s := Lib.bitLen_shift56 x.toNat (by omega) (by omega)
       rw [e] at l ⊢
       omega)
    | (rw [Lib.len8_of (x / 4294967296 / 65536 % 256) (by omega) (by omega)]
       have e : (x / 4294967296 / 65536 % 256).toNat = x.toNat / 281474976710656 := by omega
       have l := Lib.bitLen_le8' (x / 4294967296 / 65536 % 256) (by omega) (by omega)
       have s := Lib.bitLen_shift48 x.toNat (by omega) (by omega)
       rw [e] at l ⊢
       omega)
    | (rw [Lib.len8_of (x / 4294967296 / 256 % 256) (by omega) (by omega)]
       have e : (x / 4294967296 / 256 % 256).toNat = x.toNat / 1099511627776 := by omega
       have l := Lib.bitLen_le8' (x / 4294967296 / 256 % 256) (by omega) (by omega)
       have s := Lib.bitLen_shift40 x.toNat (by omega) (by omega)
       rw [e] at l ⊢
       omega)
    | (rw [Lib.len8_of (x / 4294967296 % 256) (by omega) (by omega)]
       have e : (x / 4294967296 % 256).toNat = x.toNat / 4294967296 := by omega
       have l := Lib.bitLen_le8' (x / 4294967296 % 256) (by omega) (by omega)
       have s := Lib.bitLen_shift32 x.toNat (by omega) (by omega)
       rw [e] at l ⊢
       omega)
    | (rw [Lib.len8_of (x / 65536 / 256 % 256) (by omega) (by omega)]
       have e : (x / 65536 / 256 % 256).toNat = x.toNat / 16777216 := by omega
       have l := Lib.bitLen_le8' (x / 65536 / 256 % 256) (by omega) (by omega)
       have s := Lib.bitLen_shift24 x.toNat (by omega) (by omega)
       rw [e] at l ⊢
       omega)
    | (rw [Lib.len8_of (x / 65536 % 256) (by omega) (by omega)]
       have e : (x / 65536 % 256).toNat = x.toNat / 65536 := by omega
       have l := Lib.bitLen_le8' (x / 65536 % 256) (by omega) (by omega)
       have s := Lib.bitLen_shift16 x.toNat (by omega) (by omega)
       rw [e] at l ⊢
       omega)
    | (rw [Lib.len8_of (x / 256 % 256) (by omega) (by omega)]
       have e : (x / 256 % 256).toNat = x.toNat / 256 := by omega
       have l := Lib.bitLen_le8' (x / 256 % 256) (by omega) (by omega)
       have s := Lib.bitLen_shift8 x.toNat (by omega) (by omega)
       rw [e] at l ⊢
       omega)
    | (rw [Lib.len8_of (x % 256) (by omega) (by omega)]
       have e : (x % 256).toNat = x.toNat := by omega
       have l := Lib.bitLen_le8' (x % 256) (by omega) (by omega)
       rw [e] at l ⊢
       omega)
def e129 : List SV → Option (List Prop × SV)
  | [.int .u64 x] => some ([0 ≤ x, x ≤ 18446744073709551615], SI (M.blen x))
  | _ => none
theorem s129 : PureOK PP 129 e129 := fun xs ps res hx hp => by
  unfold e129 at hx
  split at hx
  · rename_i x
    cases hx
    have h0 := hp (0 ≤ x) (by simp)
    have h1 := hp (x ≤ 18446744073709551615) (by simp)
    refine ⟨Ent.of (fn := Try.f129) (by kernel_rfl) (by kernel_rfl) (by kernel_rfl), Nat.le_refl _, fun ρ0 S w vs hm hr => ?_⟩
    have hv : vs = #[.int .u64 x] := by
      obtain ⟨hl, hg⟩ := hr
      have hs : vs.size = 1 := hl
      have h := hg 0 (.lit (.int .u64 x)) vs[0] (by simp [SV.denL, SV.den]) (by simp [hs])
      have h := h.lit_inv
      apply Array.ext
      · simp [hs]
      · intro i h1 h2
        have : i = 0 := by omega
        subst this
        simpa using h
    subst hv
    refine (bits_Len64 x w h0 h1).mono ?_
    rintro e w' ⟨rfl, rfl⟩
    exact ⟨_, rfl, ρ0, S, hm, .lit _⟩
  · cases hx
end Go.Proofs.Ytoncoofmijjgeaa.Sep
namespace Go.Proofs.Ytoncoofmijjgeaa.Sep
open Go
set_option linter.unusedVariables false
set_option linter.unusedSimpArgs false
def e135:EntB
 | [.vec 0 2 0 n,.int .i64 x,.int .i64 y,.ptr 1 0,.fn 102 [] []],[.row 2 m g_1,.cells [.int .i64 s]]=>some ([Row 2 m g_1,m=n,n≤100000,0≤x,x<n,0≤y,y<n,-1000≤s,s≤1000],.tup [SI ((M.or2 (fun z:Int × Int=>z.1) (pr2 g_1) x.toNat y.toNat s).1),SI ((M.or2 (fun z:Int × Int=>z.1) (pr2 g_1) x.toNat y.toNat s).2.1)],[.row 2 m (fun k=>[SI ((pr2 g_1) k).1,SI ((pr2 g_1) k).2]),.cells [SI ((M.or2 (fun z:Int × Int=>z.1) (pr2 g_1) x.toNat y.toNat s).2.2)]])
 | _,_=>none
def Rr135 (n m:Nat) (x y s:Int) (p:Nat→Int × Int):Prop:=(fun (z1:Bool) (z0:Nat × Nat × Int) (z2:Prop)=>(0:Int)≤y∧y<(↑n:Int)∧(0:Nat)+Int.toNat y<m∧(0:Int)≤x∧x<(↑n:Int)∧(0:Nat)+Int.toNat x<m∧(z1=true→R64 (s+(1:Int))∧z2∧s+(1:Int)=z0.2.2∧y=(↑z0.1:Int)∧x=(↑z0.2.1:Int))∧(z1=false→z2∧s=z0.2.2∧x=(↑z0.1:Int)∧y=(↑z0.2.1:Int))) (decide (M.cmpI (p ((0:Nat)+Int.toNat y)).1 (p ((0:Nat)+Int.toNat x)).1<(0:Int))) (M.or2 (fun z=>z.1) p (Int.toNat x) (Int.toNat y) s) (m≤m∧∀ (k:Nat),k<m→(p k).1=(p k).1∧(p k).2=(p k).2)
theorem r135 (n m:Nat) (x y s:Int) (p:Nat→Int × Int):VB true [] [(102,pureE e102)] Try.f135 [0,1,2,3,4,10,11,22] [] [.vec 0 2 0 n,SI x,SI y,.ptr 1 0,.fn 102 [] []] [.row 2 m (fun k=>[SI (p k).1,SI (p k).2]),.cells [SI s]] (.tup [SI ((M.or2 (fun z:Int × Int=>z.1) p x.toNat y.toNat s).1),SI ((M.or2 (fun z:Int × Int=>z.1) p x.toNat y.toNat s).2.1)]) [.row 2 m (fun k=>[SI (p k).1,SI (p k).2]),.cells [SI ((M.or2 (fun z:Int × Int=>z.1) p x.toNat y.toNat s).2.2)]]=Rr135 n m x y s p:=by kernel_rfl
theorem br135 (n m:Nat) (x y s:Int) (p:Nat→Int × Int) (hp:(m=n)∧(n≤100000)∧(0≤x)∧(x<n)∧(0≤y)∧(y<n)∧(-1000≤s)∧(s≤1000)∧AllP []):Rr135 n m x y s p:=by
 unfold Rr135
 dsimp -iota -proj -eta -zeta only
 obtain ⟨rfl,h1,x1,x2,y1,y2,s1,s2,-⟩:=id hp
 obtain ⟨A,rfl⟩:=Int.eq_ofNat_of_zero_le x1
 obtain ⟨B,rfl⟩:=Int.eq_ofNat_of_zero_le y1
 have r1:R64 (s+1):=by unfold R64; omega
 simp only [M.cmpI_lt,Int.toNat_natCast,Nat.zero_add,M.or2,r1]
 by_cases h:(p B).1<(p A).1
 ·simp [h]
  all_goals omega
 ·simp [h]
  all_goals omega
theorem s135:SpecOK PP 135 e135:=by
 intro xs Hs ps res Hs1 h hp
 unfold e135 at h
 split at h
 ·rename_i n x y m g_1 s
  cases h
  simp only [AllP.cons] at hp
  obtain ⟨Hg_1,hp⟩:=hp
  exact Spec.blocks (enterBH (Hold.of (r135 n m x y s (pr2 g_1)) (br135 n m x y s (pr2 g_1) hp)) (.nil) (.cons (pureE_ok s102) (.nil)) (k:=135) (by kernel_rfl) (by kernel_rfl) rfl (fun _=>.nil)) (.row Hg_1 (fun _=>rfl) (.same .nil))
 ·cases h
def e134:EntB
 | [.vec 0 2 0 n,.int .i64 x,.int .i64 y,.int .i64 z,.ptr 1 0,.fn 102 [] []],[.row 2 m g_1,.cells [.int .i64 s]]=>some ([Row 2 m g_1,m=n,n≤100000,0≤x,x<n,0≤y,y<n,0≤z,z<n,-100≤s,s≤100],SI ((M.med (fun z:Int × Int=>z.1) (pr2 g_1) x.toNat y.toNat z.toNat s).2.1),[.row 2 m (fun k=>[SI ((pr2 g_1) k).1,SI ((pr2 g_1) k).2]),.cells [SI ((M.med (fun z:Int × Int=>z.1) (pr2 g_1) x.toNat y.toNat z.toNat s).2.2)]])
 | _,_=>none
def Rr134 (n m:Nat) (x y z s:Int) (p:Nat→Int × Int):Prop:=(fun (z5 z7:Int) (z1 z4:Nat × Nat × Int) (z2 z6:Prop)=>(fun (z0:Nat × Nat × Int)=>(fun (z3:Nat × Nat × Int)=>z2∧m=n∧z6∧z7≤x∧x<z5∧z7≤y∧y<z5∧(- 1000:Int)≤s∧s≤(1000:Int)∧z2∧m=n∧z6∧z7≤(↑z1.2.1:Int)∧(↑z1.2.1:Int)<z5∧z7≤z∧z<z5∧(- 1000:Int)≤z1.2.2∧z1.2.2≤(1000:Int)∧z2∧m=n∧z6∧z7≤(↑z1.1:Int)∧(↑z1.1:Int)<z5∧z7≤(↑z0.1:Int)∧(↑z0.1:Int)<z5∧(- 1000:Int)≤z0.2.2∧z0.2.2≤(1000:Int)∧(m≤m∧z2)∧z3.2.2=z4.2.2∧(↑z3.2.1:Int)=(↑z4.2.1:Int)) (M.or2 (fun z=>z.1) p (Int.toNat (↑z1.1:Int)) (Int.toNat (↑z0.1:Int)) z0.2.2)) (M.or2 (fun z=>z.1) p (Int.toNat (↑z1.2.1:Int)) (Int.toNat z) z1.2.2)) (↑n:Int) (0:Int) (M.or2 (fun z=>z.1) p (Int.toNat x) (Int.toNat y) s) (M.med (fun z=>z.1) p (Int.toNat x) (Int.toNat y) (Int.toNat z) s) (∀ (k:Nat),k<m→(p k).1=(p k).1∧(p k).2=(p k).2) (n≤(100000:Nat))
theorem r134 (n m:Nat) (x y z s:Int) (p:Nat→Int × Int):VB true [] [(135,specW e135)] Try.f134 [0,1,2,3,4,5,12] [] [.vec 0 2 0 n,SI x,SI y,SI z,.ptr 1 0,.fn 102 [] []] [.row 2 m (fun k=>[SI (p k).1,SI (p k).2]),.cells [SI s]] (SI ((M.med (fun z:Int × Int=>z.1) p x.toNat y.toNat z.toNat s).2.1)) [.row 2 m (fun k=>[SI (p k).1,SI (p k).2]),.cells [SI ((M.med (fun z:Int × Int=>z.1) p x.toNat y.toNat z.toNat s).2.2)]]=Rr134 n m x y z s p:=by kernel_rfl
theorem br134 (n m:Nat) (x y z s:Int) (p:Nat→Int × Int) (hp:(m=n)∧(n≤100000)∧(0≤x)∧(x<n)∧(0≤y)∧(y<n)∧(0≤z)∧(z<n)∧(-100≤s)∧(s≤100)∧AllP []):Rr134 n m x y z s p:=by
 unfold Rr134
 dsimp -iota -proj -eta -zeta only
 obtain ⟨rfl,h1,x1,x2,y1,y2,z1,z2,s1,s2,-⟩:=id hp
 obtain ⟨A,rfl⟩:=Int.eq_ofNat_of_zero_le x1
 obtain ⟨B,rfl⟩:=Int.eq_ofNat_of_zero_le y1
 obtain ⟨C,rfl⟩:=Int.eq_ofNat_of_zero_le z1
 simp only [Int.toNat_natCast,M.med,M.medA]
 have g1:=@M.or2_in (Int × Int) (fun z:Int × Int=>z.1) p A B s
 have g2:=@M.or2_in (Int × Int) (fun z:Int × Int=>z.1) p (M.or2 (fun z:Int × Int=>z.1) p A B s).2.1 C (M.or2 (fun z:Int × Int=>z.1) p A B s).2.2
 have et:∀ f:Nat→Int × Int,(fun k=>((f k).1,(f k).2))=f:=fun f=>rfl
 try simp only [et]
 generalize M.or2 (fun z:Int × Int=>z.1) p A B s=o1 at *
 generalize M.or2 (fun z:Int × Int=>z.1) p o1.2.1 C o1.2.2=o2 at *
 simp
 omega
theorem s134:SpecOK PP 134 e134:=by
 intro xs Hs ps res Hs1 h hp
 unfold e134 at h
 split at h
 ·rename_i n x y z m g_1 s
  cases h
  simp only [AllP.cons] at hp
  obtain ⟨Hg_1,hp⟩:=hp
  exact Spec.blocks (enterBH (Hold.of (r134 n m x y z s (pr2 g_1)) (br134 n m x y z s (pr2 g_1) hp)) (.nil) (.cons (specW_ok s135) (.nil)) (k:=134) (by kernel_rfl) (by kernel_rfl) rfl (fun _=>.nil)) (.row Hg_1 (fun _=>rfl) (.same .nil))
 ·cases h
def e133:EntB
 | [.vec 0 2 0 n,.int .i64 x,.ptr 1 0,.fn 102 [] []],[.row 2 m g_1,.cells [.int .i64 s]]=>some ([Row 2 m g_1,m=n,n≤100000,1≤x,x+1<n,-100≤s,s≤100],SI ((M.med (fun z:Int × Int=>z.1) (pr2 g_1) (x.toNat-1) x.toNat (x.toNat+1) s).2.1),[.row 2 m (fun k=>[SI ((pr2 g_1) k).1,SI ((pr2 g_1) k).2]),.cells [SI ((M.med (fun z:Int × Int=>z.1) (pr2 g_1) (x.toNat-1) x.toNat (x.toNat+1) s).2.2)]])
 | _,_=>none
def Rr133 (n m:Nat) (x s:Int) (p:Nat→Int × Int):Prop:=(fun (z3:Int) (z1:Nat × Nat × Int) (z2:Prop)=>(fun (z0:Nat × Nat × Int)=>R64 (x-z3)∧R64 (x+z3)∧z2∧m=n∧n≤(100000:Nat)∧(0:Int)≤x-z3∧x-z3<(↑n:Int)∧(0:Int)≤x∧x<(↑n:Int)∧(0:Int)≤x+z3∧x+z3<(↑n:Int)∧(- 100:Int)≤s∧s≤(100:Int)∧(m≤m∧z2)∧z0.2.2=z1.2.2∧(↑z0.2.1:Int)=(↑z1.2.1:Int)) (M.med (fun z=>z.1) p (Int.toNat (x-z3)) (Int.toNat x) (Int.toNat (x+z3)) s)) (1:Int) (M.med (fun z=>z.1) p (Int.toNat x-(1:Nat)) (Int.toNat x) (Int.toNat x+(1:Nat)) s) (∀ (k:Nat),k<m→(p k).1=(p k).1∧(p k).2=(p k).2)
theorem r133 (n m:Nat) (x s:Int) (p:Nat→Int × Int):VB true [] [(134,specW e134)] Try.f133 [0,1,2,3,8] [] [.vec 0 2 0 n,SI x,.ptr 1 0,.fn 102 [] []] [.row 2 m (fun k=>[SI (p k).1,SI (p k).2]),.cells [SI s]] (SI ((M.med (fun z:Int × Int=>z.1) p (x.toNat-1) x.toNat (x.toNat+1) s).2.1)) [.row 2 m (fun k=>[SI (p k).1,SI (p k).2]),.cells [SI ((M.med (fun z:Int × Int=>z.1) p (x.toNat-1) x.toNat (x.toNat+1) s).2.2)]]=Rr133 n m x s p:=by kernel_rfl
theorem br133 (n m:Nat) (x s:Int) (p:Nat→Int × Int) (hp:(m=n)∧(n≤100000)∧(1≤x)∧(x+1<n)∧(-100≤s)∧(s≤100)∧AllP []):Rr133 n m x s p:=by
 unfold Rr133
 dsimp -iota -proj -eta -zeta only
 obtain ⟨rfl,h1,x1,x2,s1,s2,-⟩:=id hp
 obtain ⟨A,rfl⟩:=Int.eq_ofNat_of_zero_le (show 0≤x by omega)
 have e1:((A:Int)-1).toNat=A-1:=by omega
 have e2:((A:Int)+1).toNat=A+1:=by omega
 have r1:R64 ((A:Int)-1):=by unfold R64; omega
 have r2:R64 ((A:Int)+1):=by unfold R64; omega
 simp only [Int.toNat_natCast,e1,e2,r1,r2]
 simp
 omega
theorem s133:SpecOK PP 133 e133:=by
 intro xs Hs ps res Hs1 h hp
 unfold e133 at h
 split at h
 ·rename_i n x m g_1 s
  cases h
  simp only [AllP.cons] at hp
  obtain ⟨Hg_1,hp⟩:=hp
  exact Spec.blocks (enterBH (Hold.of (r133 n m x s (pr2 g_1)) (br133 n m x s (pr2 g_1) hp)) (.nil) (.cons (specW_ok s134) (.nil)) (k:=133) (by kernel_rfl) (by kernel_rfl) rfl (fun _=>.nil)) (.row Hg_1 (fun _=>rfl) (.same .nil))
 ·cases h
end Go.Proofs.Ytoncoofmijjgeaa.Sep
namespace Go.Proofs.Ytoncoofmijjgeaa.M
theorem med_bd {key:Int × Int→Int} {p:Nat→Int × Int} {x y z lo hi:Nat} {s:Int} {o:Nat × Nat × Int} (ho:o=med key p x y z s) (hx:lo≤x∧x≤hi) (hy:lo≤y∧y≤hi) (hz:lo≤z∧z≤hi) :
  lo≤o.2.1∧o.2.1≤hi∧s≤o.2.2∧o.2.2≤s+3:=by
 have g:=@med_in (Int × Int) key p x y z s
 rw [← ho] at g
 omega
end Go.Proofs.Ytoncoofmijjgeaa.M
namespace Go.Proofs.Ytoncoofmijjgeaa.Sep
open Go
set_option linter.unusedVariables false
set_option linter.unusedSimpArgs false
def e123:EntB
 | [.vec 0 2 0 n,.int .i64 a,.int .i64 b,.fn 102 [] []],[.row 2 m g_1]=>some ([Row 2 m g_1,m=n,n≤100000,0≤a,a+8≤b,b≤n],.tup [SI (M.cpV (fun z:Int × Int=>z.1) a.toNat b.toNat (pr2 g_1)),SI (M.cpH (fun z:Int × Int=>z.1) a.toNat b.toNat (pr2 g_1))],[.row 2 m (fun k=>[SI ((pr2 g_1) k).1,SI ((pr2 g_1) k).2])])
 | _,_=>none
def Rr123 (n m:Nat) (a b:Int) (p:Nat→Int × Int):Prop:=let z_0:Int:=(Int.tdiv (b-a) (4:Int)); let z_1:Nat × Nat × Int:=(M.med (fun z=>z.1) p (Int.toNat (a+z_0*(1:Int))) (Int.toNat (a+z_0*(2:Int))) (Int.toNat (a+z_0*(3:Int))) (0:Int)); let z_2:Nat × Nat × Int:=(M.med (fun z=>z.1) p (Int.toNat (a+z_0*(1:Int))-(1:Nat)) (Int.toNat (a+z_0*(1:Int))) (Int.toNat (a+z_0*(1:Int))+(1:Nat)) (0:Int)); let z_3:Nat × Nat × Int:=(M.med (fun z=>z.1) p (Int.toNat (a+z_0*(2:Int))-(1:Nat)) (Int.toNat (a+z_0*(2:Int))) (Int.toNat (a+z_0*(2:Int))+(1:Nat)) z_2.2.2); let z_4:Nat × Nat × Int:=(M.med (fun z=>z.1) p (Int.toNat (a+z_0*(3:Int))-(1:Nat)) (Int.toNat (a+z_0*(3:Int))) (Int.toNat (a+z_0*(3:Int))+(1:Nat)) z_3.2.2); let z_5:Nat × Nat × Int:=(M.med (fun z=>z.1) p (Int.toNat (↑z_2.2.1:Int)) (Int.toNat (↑z_3.2.1:Int)) (Int.toNat (↑z_4.2.1:Int)) z_4.2.2); R64 (b-a)∧(4:Int)≠(0:Int)∧R64 z_0∧R64 (z_0*(1:Int))∧R64 (a+z_0*(1:Int))∧(4:Int)≠(0:Int)∧R64 z_0∧R64 (z_0*(2:Int))∧R64 (a+z_0*(2:Int))∧(4:Int)≠(0:Int)∧R64 z_0∧R64 (z_0*(3:Int))∧R64 (a+z_0*(3:Int))∧(decide ((8:Int)≤b-a)=true→(decide ((50:Int)≤b-a)=true→(∀ (k:Nat),k<m→(p k).1=(p k).1∧(p k).2=(p k).2)∧m=n∧n≤(100000:Nat)∧(1:Int)≤a+z_0*(1:Int)∧a+z_0*(1:Int)+(1:Int)<(↑n:Int)∧(-100:Int)≤(0:Int)∧(0:Int)≤(100:Int)∧(∀ (k:Nat),k<m→(p k).1=(p k).1∧(p k).2=(p k).2)∧m=n∧n≤(100000:Nat)∧(1:Int)≤a+z_0*(2:Int)∧a+z_0*(2:Int)+(1:Int)<(↑n:Int)∧(-100:Int)≤z_2.2.2∧z_2.2.2≤(100:Int)∧(∀ (k:Nat),k<m→(p k).1=(p k).1∧(p k).2=(p k).2)∧m=n∧n≤(100000:Nat)∧(1:Int)≤a+z_0*(3:Int)∧a+z_0*(3:Int)+(1:Int)<(↑n:Int)∧(-100:Int)≤z_3.2.2∧z_3.2.2≤(100:Int)∧(∀ (k:Nat),k<m→(p k).1=(p k).1∧(p k).2=(p k).2)∧m=n∧n≤(100000:Nat)∧(0:Int)≤(↑z_2.2.1:Int)∧(↑z_2.2.1:Int)<(↑n:Int)∧(0:Int)≤(↑z_3.2.1:Int)∧(↑z_3.2.1:Int)<(↑n:Int)∧(0:Int)≤(↑z_4.2.1:Int)∧(↑z_4.2.1:Int)<(↑n:Int)∧(-100:Int)≤z_4.2.2∧z_4.2.2≤(100:Int)∧(decide (z_5.2.2=(0:Int))=true→(m≤m∧∀ (k:Nat),k<m→(p k).1=(p k).1∧(p k).2=(p k).2)∧(↑z_5.2.1:Int)=(↑(M.cpV (fun z=>z.1) (Int.toNat a) (Int.toNat b) p):Int)∧(1:Int)=M.cpH (fun z=>z.1) (Int.toNat a) (Int.toNat b) p)∧(decide (z_5.2.2=(0:Int))=false→(decide (z_5.2.2=(12:Int))=true→(m≤m∧∀ (k:Nat),k<m→(p k).1=(p k).1∧(p k).2=(p k).2)∧(↑z_5.2.1:Int)=(↑(M.cpV (fun z=>z.1) (Int.toNat a) (Int.toNat b) p):Int)∧(2:Int)=M.cpH (fun z=>z.1) (Int.toNat a) (Int.toNat b) p)∧(decide (z_5.2.2=(12:Int))=false→(m≤m∧∀ (k:Nat),k<m→(p k).1=(p k).1∧(p k).2=(p k).2)∧(↑z_5.2.1:Int)=(↑(M.cpV (fun z=>z.1) (Int.toNat a) (Int.toNat b) p):Int)∧(0:Int)=M.cpH (fun z=>z.1) (Int.toNat a) (Int.toNat b) p)))∧(decide ((50:Int)≤b-a)=false→(∀ (k:Nat),k<m→(p k).1=(p k).1∧(p k).2=(p k).2)∧m=n∧n≤(100000:Nat)∧(0:Int)≤a+z_0*(1:Int)∧a+z_0*(1:Int)<(↑n:Int)∧(0:Int)≤a+z_0*(2:Int)∧a+z_0*(2:Int)<(↑n:Int)∧(0:Int)≤a+z_0*(3:Int)∧a+z_0*(3:Int)<(↑n:Int)∧(-100:Int)≤(0:Int)∧(0:Int)≤(100:Int)∧(decide (z_1.2.2=(0:Int))=true→(m≤m∧∀ (k:Nat),k<m→(p k).1=(p k).1∧(p k).2=(p k).2)∧(↑z_1.2.1:Int)=(↑(M.cpV (fun z=>z.1) (Int.toNat a) (Int.toNat b) p):Int)∧(1:Int)=M.cpH (fun z=>z.1) (Int.toNat a) (Int.toNat b) p)∧(decide (z_1.2.2=(0:Int))=false→(decide (z_1.2.2=(12:Int))=true→(m≤m∧∀ (k:Nat),k<m→(p k).1=(p k).1∧(p k).2=(p k).2)∧(↑z_1.2.1:Int)=(↑(M.cpV (fun z=>z.1) (Int.toNat a) (Int.toNat b) p):Int)∧(2:Int)=M.cpH (fun z=>z.1) (Int.toNat a) (Int.toNat b) p)∧(decide (z_1.2.2=(12:Int))=false→(m≤m∧∀ (k:Nat),k<m→(p k).1=(p k).1∧(p k).2=(p k).2)∧(↑z_1.2.1:Int)=(↑(M.cpV (fun z=>z.1) (Int.toNat a) (Int.toNat b) p):Int)∧(0:Int)=M.cpH (fun z=>z.1) (Int.toNat a) (Int.toNat b) p))))∧(decide ((8:Int)≤b-a)=false→(decide ((0:Int)=(0:Int))=true→(m≤m∧∀ (k:Nat),k<m→(p k).1=(p k).1∧(p k).2=(p k).2)∧a+z_0*(2:Int)=(↑(M.cpV (fun z=>z.1) (Int.toNat a) (Int.toNat b) p):Int)∧(1:Int)=M.cpH (fun z=>z.1) (Int.toNat a) (Int.toNat b) p)∧(decide ((0:Int)=(0:Int))=false→(decide ((0:Int)=(12:Int))=true→(m≤m∧∀ (k:Nat),k<m→(p k).1=(p k).1∧(p k).2=(p k).2)∧a+z_0*(2:Int)=(↑(M.cpV (fun z=>z.1) (Int.toNat a) (Int.toNat b) p):Int)∧(2:Int)=M.cpH (fun z=>z.1) (Int.toNat a) (Int.toNat b) p)∧(decide ((0:Int)=(12:Int))=false→(m≤m∧∀ (k:Nat),k<m→(p k).1=(p k).1∧(p k).2=(p k).2)∧a+z_0*(2:Int)=(↑(M.cpV (fun z=>z.1) (Int.toNat a) (Int.toNat b) p):Int)∧(0:Int)=M.cpH (fun z=>z.1) (Int.toNat a) (Int.toNat b) p)))
theorem r123 (n m:Nat) (a b:Int) (p:Nat→Int × Int):VB true [] [(133,specW e133),(134,specW e134)] Try.f123 [0,1,2,3,8,9,10,11,12,13,14,34,36,55,57,60] [] [.vec 0 2 0 n,SI a,SI b,.fn 102 [] []] [.row 2 m (fun k=>[SI (p k).1,SI (p k).2])] (.tup [SI (M.cpV (fun z:Int × Int=>z.1) a.toNat b.toNat p),SI (M.cpH (fun z:Int × Int=>z.1) a.toNat b.toNat p)]) [.row 2 m (fun k=>[SI (p k).1,SI (p k).2])]=Rr123 n m a b p:=by kernel_rfl
theorem br123 (n m:Nat) (a b:Int) (p:Nat→Int × Int) (hp:(m=n)∧(n≤100000)∧(0≤a)∧(a+8≤b)∧(b≤n)∧AllP []):Rr123 n m a b p:=by
 delta Rr123
 obtain ⟨rfl,hn,a1,b1,b2,-⟩:=id hp
 obtain ⟨A,rfl⟩:=Int.eq_ofNat_of_zero_le a1
 obtain ⟨B,rfl⟩:=Int.eq_ofNat_of_zero_le (show 0≤b by omega)
 obtain ⟨q,hq⟩ : ∃ q:Nat,q=(B-A)/4:=⟨_,rfl⟩
 have eq:Int.tdiv ((B:Int)-A) 4=(q:Int):=by rw [Int.tdiv_eq_ediv_of_nonneg (by omega)]; omega
 have t1:((A:Int)+(q:Int)*1).toNat=A+q*1:=by omega
 have t2:((A:Int)+(q:Int)*2).toNat=A+q*2:=by omega
 have t3:((A:Int)+(q:Int)*3).toNat=A+q*3:=by omega
 have et:∀ f:Nat→Int × Int,(fun k=>((f k).1,(f k).2))=f:=fun f=>rfl
 have h8:(8:Int)≤(B:Int)-A:=by omega
 have h8':8≤B-A:=by omega
 intro z0 z1 z2 z3 z4 z5
 clear_value (h5:z5=_) (h4:z4=_) (h3:z3=_) (h2:z2=_) (h1:z1=_) (h0:z0=_)
 rw [eq] at h0
 subst h0
 simp only [t1,t2,t3,et,Int.toNat_natCast] at h1 h2 h3 h4 h5 ⊢
 have hR:∀ z:Int,-4000000000000≤z→z≤4000000000000→R64 z:=fun z h1 h2=>by unfold R64; omega
 have r1:=hR ((B:Int)-A) (by omega) (by omega)
 have r2:=hR (q:Int) (by omega) (by omega)
 have r3:=hR ((q:Int)*1) (by omega) (by omega)
 have r4:=hR ((q:Int)*2) (by omega) (by omega)
 have r5:=hR ((q:Int)*3) (by omega) (by omega)
 have r6:=hR ((A:Int)+(q:Int)*1) (by omega) (by omega)
 have r7:=hR ((A:Int)+(q:Int)*2) (by omega) (by omega)
 have r8:=hR ((A:Int)+(q:Int)*3) (by omega) (by omega)
 simp only [r1,r2,r3,r4,r5,r6,r7,r8]
 have g1:=M.med_bd (lo:=A) (hi:=B-1) h1 (by omega) (by omega) (by omega)
 by_cases h50:50≤B-A
 ·have h50':(50:Int)≤(B:Int)-A:=by omega
  have g2:=M.med_bd (lo:=A) (hi:=B-1) h2 (by omega) (by omega) (by omega)
  have g3:=M.med_bd (lo:=A) (hi:=B-1) h3 (by omega) (by omega) (by omega)
  have g4:=M.med_bd (lo:=A) (hi:=B-1) h4 (by omega) (by omega) (by omega)
  have g5:=M.med_bd (lo:=A) (hi:=B-1) h5 ⟨g2.1,g2.2.1⟩ ⟨g3.1,g3.2.1⟩ ⟨g4.1,g4.2.1⟩
  have eI:M.cpI (fun z:Int × Int=>z.1) A B p=z2:=by unfold M.cpI; rw [if_pos h50,← hq,h2]
  have eJ:M.cpJ (fun z:Int × Int=>z.1) A B p=z3:=by unfold M.cpJ; rw [if_pos h50,← hq,eI,h3]
  have eK:M.cpK (fun z:Int × Int=>z.1) A B p=z4:=by unfold M.cpK; rw [if_pos h50,← hq,eJ,h4]
  have eM:M.cpM (fun z:Int × Int=>z.1) A B p=z5:=by unfold M.cpM; rw [if_pos h8',eI,eJ,eK,h5]
  simp only [M.cpV,M.cpH,eM]
  clear h1 h2 h3 h4 h5 eI eJ eK eM
  by_cases y0:z5.2.2=0
  ·simp [h8,h50',y0]
   omega
  ·by_cases y1:z5.2.2=12
   ·simp [h8,h50',y1]
    omega
   ·simp [h8,h50',y0,y1]
    omega
 ·have h50':¬ (50:Int)≤(B:Int)-A:=by omega
  have eI:M.cpI (fun z:Int × Int=>z.1) A B p=(0,A+q*1,0):=by unfold M.cpI; rw [if_neg h50,← hq]
  have eJ:M.cpJ (fun z:Int × Int=>z.1) A B p=(0,A+q*2,0):=by unfold M.cpJ; rw [if_neg h50,← hq]
  have eK:M.cpK (fun z:Int × Int=>z.1) A B p=(0,A+q*3,0):=by unfold M.cpK; rw [if_neg h50,← hq]
  have eM:M.cpM (fun z:Int × Int=>z.1) A B p=z1:=by unfold M.cpM; rw [if_pos h8',eI,eJ,eK,h1]
  simp only [M.cpV,M.cpH,eM]
  clear h1 h2 h3 h4 h5 eI eJ eK eM
  by_cases y0:z1.2.2=0
  ·simp [h8,h50',y0]
   omega
  ·by_cases y1:z1.2.2=12
   ·simp [h8,h50',y1]
    omega
   ·simp [h8,h50',y0,y1]
    omega
theorem s123:SpecOK PP 123 e123:=by
 intro xs Hs ps res Hs1 h hp
 unfold e123 at h
 split at h
 ·rename_i n a b m g_1
  cases h
  simp only [AllP.cons] at hp
  obtain ⟨Hg_1,hp⟩:=hp
  exact Spec.blocks (enterBH (Hold.of (r123 n m a b (pr2 g_1)) (br123 n m a b (pr2 g_1) hp)) (.nil) (.cons (specW_ok s133) (.cons (specW_ok s134) (.nil))) (k:=123) (by kernel_rfl) (by kernel_rfl) rfl (fun _=>.nil)) (.row Hg_1 (fun _=>rfl) .nil)
 ·cases h
end Go.Proofs.Ytoncoofmijjgeaa.Sep
namespace Go.Proofs.Ytoncoofmijjgeaa.Sep
open Go
set_option linter.unusedVariables false
set_option linter.unusedSimpArgs false
def e116:List SV→Option (List Prop × SV)
 | [.int .u64 x]=>some ([0≤x,x≤18446744073709551615],SI (M.blen x))
 | _=>none
def Rr116 (x:Int):Prop:=(false=true→False)∧(false=false→(0:Int)≤x∧x≤(18446744073709551615:Int)∧M.blen x=M.blen x)
theorem r116 (x:Int):V true [] [(129,pureE e129)] Try.f116 [0,2] [] [.int .u64 x] (SI (M.blen x))=Rr116 x:=by kernel_rfl
theorem br116 (x:Int) (hp:(0≤x)∧(x≤18446744073709551615)∧AllP []):Rr116 x:=by
 unfold Rr116
 simp [hp]
theorem s116:PureOK PP 116 e116:=by
 intro xs ps res h hp
 unfold e116 at h
 split at h
 ·rename_i x
  cases h
  simp only [AllP.cons] at hp
  exact enterH (Hold.of (r116 x) (br116 x hp)) (.nil) (.cons (pureE_ok s129) (.nil)) (k:=116) (by kernel_rfl) (by kernel_rfl) (fun _=>.nil)
 ·cases h
def e131:List SV→Option (List Prop × SV)
 | [.int .i64 l]=>some ([8≤l,l≤200],.int .u64 (M.npo l))
 | _=>none
def Rr131 (l:Int):Prop:=(0:Int)≤IntKind.wrap IntKind.u64 l∧IntKind.wrap IntKind.u64 l≤(18446744073709551615:Int)∧(0:Int)≤M.blen (IntKind.wrap IntKind.u64 l)∧IntKind.wrap IntKind.u64 ((1:Int)*(2:Int) ^ min (Int.toNat (M.blen (IntKind.wrap IntKind.u64 l))) (IntKind.bits IntKind.u64))=M.npo l
theorem r131 (l:Int):V true [] [(116,pureE e116)] Try.f131 [0,2] [] [SI l] (.int .u64 (M.npo l))=Rr131 l:=by kernel_rfl
theorem br131 (l:Int) (hp:(8≤l)∧(l≤200)∧AllP []):Rr131 l:=by
 unfold Rr131
 obtain ⟨l1,l2,-⟩:=hp
 obtain ⟨A,rfl⟩:=Int.eq_ofNat_of_zero_le (show 0≤l by omega)
 obtain ⟨g1,g2,g3,g4⟩:=M.npo_ok A (by omega) (by omega)
 have e:IntKind.wrap .u64 (A:Int)=A:=by
  simp only [IntKind.wrap,IntKind.bits,IntKind.signed]
  simp
  omega
 have e2:IntKind.wrap .u64 (1*2 ^ min (Int.toNat (M.blen (IntKind.wrap .u64 (A:Int)))) (IntKind.bits .u64))=M.npo A:=rfl
 rw [e] at g4 e2
 simp only [e,e2]
 simp [g4]
 omega
theorem s131:PureOK PP 131 e131:=by
 intro xs ps res h hp
 unfold e131 at h
 split at h
 ·rename_i l
  cases h
  simp only [AllP.cons] at hp
  exact enterH (Hold.of (r131 l) (br131 l hp)) (.nil) (.cons (pureE_ok s116) (.nil)) (k:=131) (by kernel_rfl) (by kernel_rfl) (fun _=>.nil)
 ·cases h
def e132:EntB
 | [.ptr 0 0],[.cells [.int .u64 r]]=>some ([],.int .u64 (M.xsN r),[.cells [.int .u64 (M.xsN r)]])
 | _,_=>none
def Rr132 (r:Int):Prop:=(fun (z0:Int)=>(fun (z1:Prop)=>(0:Int)≤(13:Int)∧(0:Int)≤(7:Int)∧(0:Int)≤(17:Int)∧z1∧z1) (IntKind.wrap IntKind.u64 (↑(BitVec.toNat (BitVec.ofInt (IntKind.bits IntKind.u64) (IntKind.wrap IntKind.u64 z0) ^^^ BitVec.ofInt (IntKind.bits IntKind.u64) (IntKind.wrap IntKind.u64 (IntKind.wrap IntKind.u64 z0*(2:Int) ^ min (Int.toNat (17:Int)) (IntKind.bits IntKind.u64))))):Int)=M.xsN r)) (↑(BitVec.toNat (BitVec.ofInt (IntKind.bits IntKind.u64) (IntKind.wrap IntKind.u64 (↑(BitVec.toNat (BitVec.ofInt (IntKind.bits IntKind.u64) r ^^^ BitVec.ofInt (IntKind.bits IntKind.u64) (IntKind.wrap IntKind.u64 (r*(2:Int) ^ min (Int.toNat (13:Int)) (IntKind.bits IntKind.u64))))):Int)) ^^^ BitVec.ofInt (IntKind.bits IntKind.u64) (Int.fdiv (IntKind.wrap IntKind.u64 (↑(BitVec.toNat (BitVec.ofInt (IntKind.bits IntKind.u64) r ^^^ BitVec.ofInt (IntKind.bits IntKind.u64) (IntKind.wrap IntKind.u64 (r*(2:Int) ^ min (Int.toNat (13:Int)) (IntKind.bits IntKind.u64))))):Int)) ((2:Int) ^ min (Int.toNat (7:Int)) (IntKind.bits IntKind.u64))))):Int)
theorem r132 (r:Int):VB true [] [] Try.f132 [0,2] [] [.ptr 0 0] [.cells [.int .u64 r]] (.int .u64 (M.xsN r)) [.cells [.int .u64 (M.xsN r)]]=Rr132 r:=by kernel_rfl
theorem br132 (r:Int)  : Rr132 r:=by
 unfold Rr132
 dsimp -iota -proj -eta -zeta only
 refine ⟨by omega,by omega,by omega,?_⟩
 repeat' apply And.intro
 all_goals first | rfl | trivial
theorem s132:SpecOK PP 132 e132:=by
 intro xs Hs ps res Hs1 h hp
 unfold e132 at h
 split at h
 ·rename_i r
  cases h
  clear hp
  exact enterBH (Hold.of (r132 r) (br132 r )) (.nil) (.nil) (k:=132) (by kernel_rfl) (by kernel_rfl) rfl (fun _=>.nil)
 ·cases h
def lp122 (n m a b:Nat) (p0:Nat→Int × Int):LoopS where
 ι:=Nat
 β:=Unit
 pre:=fun t=>t≤3∧a+8≤b∧b-a≤200∧b≤n∧m=n∧n≤100000
 μ:=fun t=>3-t
 next:=fun t _ _ _=>t+1
 out:=fun _=>()
 early _:=false
 SA:=fun t=>[(0,.vec 0 2 0 n),(1,SI a),(8,SI (((b-a:Nat):Int))),(9,.ptr 1 0),(10,.int .u64 (M.npo ((b-a:Nat):Int))),(11,SI (((a:Int)+(((b-a)/4:Nat):Int)*2-1+t)))]
 SH:=fun t=>[(0,.row 2 m (fun k=>[SI (M.brk M.oth a b t p0 k).1,SI (M.brk M.oth a b t p0 k).2])),(1,.cells [.int .u64 (M.xr ((b-a:Nat):Int) t)])]
 n0:=2
 NA _:=[]
 NH _:=[(0,.row 2 m (fun k=>[SI (M.brk M.oth a b 3 p0 k).1,SI (M.brk M.oth a b 3 p0 k).2]))]
 n1:=1
 RA _:=[]
 RH _:=[]
def Rq122 (n m a b:Nat) (p0:Nat→Int × Int) (t:Nat):Prop:=(fun (z1 z4 z12 z13:Int) (z6:Nat)=>(fun (z0 z7:Int) (z5:Nat) (z8 z11 z15:Prop)=>(fun (z14:Bool) (z2 z3:Int)=>(fun (z9 z10:Nat)=>(4:Int)≠z13∧R64 (Int.tdiv z4 (4:Int))∧R64 (Int.tdiv z4 (4:Int)*(2:Int))∧R64 z7∧R64 (z7+(1:Int))∧(decide (z1≤z7+(1:Int))=true→R64 (IntKind.wrap IntKind.u64 z0)∧(z14=true→R64 (IntKind.wrap IntKind.u64 z0-z4)∧R64 z2∧R64 z2∧z13≤z2∧z2<z12∧z9<m∧z13≤z1∧z1<z12∧z5<m∧z13≤z1∧z1<z12∧z5<m∧z13≤z2∧z2<z12∧z9<m∧R64 (z1+(1:Int))∧z8∧(3:Nat)-z6<(3:Nat)-t∧()=()∧(0:Nat)=(0:Nat)∧n=n∧(↑a:Int)=(↑a:Int)∧z4=z4∧M.npo z4=M.npo z4∧z11∧m≤m∧(∀ (k:Nat),k<m→(bif decide (k=z9) then (M.brk M.oth a b t p0 z5).1 else bif decide (k=z5) then (M.brk M.oth a b t p0 z9).1 else (M.brk M.oth a b t p0 k).1)=(M.brk M.oth a b z6 p0 k).1∧(bif decide (k=z9) then (M.brk M.oth a b t p0 z5).2 else bif decide (k=z5) then (M.brk M.oth a b t p0 z9).2 else (M.brk M.oth a b t p0 k).2)=(M.brk M.oth a b z6 p0 k).2)∧z15)∧(z14=false→R64 z3∧R64 z3∧z13≤z3∧z3<z12∧z10<m∧z13≤z1∧z1<z12∧z5<m∧z13≤z1∧z1<z12∧z5<m∧z13≤z3∧z3<z12∧z10<m∧R64 (z1+(1:Int))∧z8∧(3:Nat)-z6<(3:Nat)-t∧()=()∧(0:Nat)=(0:Nat)∧n=n∧(↑a:Int)=(↑a:Int)∧z4=z4∧M.npo z4=M.npo z4∧z11∧m≤m∧(∀ (k:Nat),k<m→(bif decide (k=z10) then (M.brk M.oth a b t p0 z5).1 else bif decide (k=z5) then (M.brk M.oth a b t p0 z10).1 else (M.brk M.oth a b t p0 k).1)=(M.brk M.oth a b z6 p0 k).1∧(bif decide (k=z10) then (M.brk M.oth a b t p0 z5).2 else bif decide (k=z5) then (M.brk M.oth a b t p0 z10).2 else (M.brk M.oth a b t p0 k).2)=(M.brk M.oth a b z6 p0 k).2)∧z15))∧(decide (z1≤z7+(1:Int))=false→false=false∧m≤m∧(∀ (k:Nat),k<m→(M.brk M.oth a b t p0 k).1=(M.brk M.oth a b (3:Nat) p0 k).1∧(M.brk M.oth a b t p0 k).2=(M.brk M.oth a b (3:Nat) p0 k).2)∧True)) ((0:Nat)+Int.toNat z2) ((0:Nat)+Int.toNat z3)) (decide (z4≤IntKind.wrap IntKind.u64 z0)) ((↑a:Int)+(IntKind.wrap IntKind.u64 z0-z4)) ((↑a:Int)+IntKind.wrap IntKind.u64 z0)) (↑(BitVec.toNat (BitVec.ofInt (IntKind.bits IntKind.u64) (M.xsN (M.xr z4 t)) &&& BitVec.ofInt (IntKind.bits IntKind.u64) (IntKind.wrap IntKind.u64 (M.npo z4-(1:Int))))):Int) ((↑a:Int)+Int.tdiv z4 (4:Int)*(2:Int)) ((0:Nat)+Int.toNat z1) (z6≤(3:Nat)∧a+(8:Nat)≤b∧b-a≤(200:Nat)∧b≤n∧m=n∧n≤(100000:Nat)) (z1+(1:Int)=(↑a:Int)+(↑((b-a)/(4:Nat)):Int)*(2:Int)-(1:Int)+(↑z6:Int)) (M.xsN (M.xr z4 t)=M.xr z4 z6∧True)) ((↑a:Int)+(↑((b-a)/(4:Nat)):Int)*(2:Int)-(1:Int)+(↑t:Int)) (↑(b-a):Int) (↑n:Int) (0:Int) (t+(1:Nat))
theorem q122 (n m a b:Nat) (p0:Nat→Int × Int) (t:Nat):VL true [] [(132,specE e132)] YS.none Try.f122 1 [0,1,2,8,9,10,11,12,17,35,45] [] 0 (lp122 n m a b p0) (t)=Rq122 n m a b p0 t:=by kernel_rfl
theorem peq122 (n m a b:Nat) (p0:Nat→Int × Int) (t:Nat):(lp122 n m a b p0).pre (t)=(t≤(3:Nat)∧a+(8:Nat)≤b∧b-a≤(200:Nat)∧b≤n∧m=n∧n≤(100000:Nat)):=by kernel_rfl
theorem bq122 (n m a b:Nat) (p0:Nat→Int × Int) (t:Nat) (hp:t≤(3:Nat)∧a+(8:Nat)≤b∧b-a≤(200:Nat)∧b≤n∧m=n∧n≤(100000:Nat)):Rq122 n m a b p0 t:=by
 unfold Rq122
 dsimp -iota -proj -eta -zeta only
 obtain ⟨ht,h1,h2,h3,rfl,h4⟩:=id hp
 obtain ⟨l,hl⟩ : ∃ l,l=b-a:=⟨_,rfl⟩
 have e0:IntKind.wrap .u64 (((BitVec.ofInt (IntKind.bits .u64) (M.xsN (M.xr ((l:Nat):Int) t)) &&& BitVec.ofInt (IntKind.bits .u64) (IntKind.wrap .u64 (M.npo ((l:Nat):Int)-1))).toNat:Nat):Int)=M.oraw l t:=rfl
 have e1:M.xr ((l:Nat):Int) (t+1)=M.xsN (M.xr ((l:Nat):Int) t):=rfl
 have e2:∀ q:Nat→Int × Int,M.brk M.oth a b (t+1) q=M.sw (a+l/4*2-1+t) (a+M.oth l t) (M.brk M.oth a b t q):=fun q=>by rw [hl]; rfl
 obtain ⟨o1,o2⟩:=@M.oraw_in l t (by omega) (by omega)
 have o3:=@M.oth_eq l t (by omega) (by omega)
 have o4:=@M.oth_lt l t (by omega)
 simp only [← hl,e0,e1,e2]
 have q4:Int.tdiv (l:Int) 4=((l/4:Nat):Int):=by rw [Int.tdiv_eq_ediv_of_nonneg (by omega)]; omega
 simp only [q4]
 generalize M.oraw l t=O at *
 generalize M.oth l t=T at *
 obtain ⟨q,hq⟩ : ∃ q,q=l/4:=⟨_,rfl⟩
 simp only [← hq]
 have hq2:2≤q∧4*q≤l:=by omega
 have hR:∀ z:Int,-4000000000000≤z→z≤4000000000000→R64 z:=fun z h1 h2=>by unfold R64; omega
 have r1:=hR (q:Int) (by omega) (by omega)
 have r2:=hR ((q:Int)*2) (by omega) (by omega)
 have r3:=hR ((a:Int)+(q:Int)*2) (by omega) (by omega)
 have r4:=hR ((a:Int)+(q:Int)*2+1) (by omega) (by omega)
 have r5:=hR O (by omega) (by omega)
 have r6:=hR (O-(l:Int)) (by omega) (by omega)
 have r7:=hR ((a:Int)+(O-(l:Int))) (by omega) (by omega)
 have r8:=hR ((a:Int)+O) (by omega) (by omega)
 have r9:=hR ((a:Int)+(q:Int)*2-1+t+1) (by omega) (by omega)
 have t1:((a:Int)+(q:Int)*2-1+t).toNat=a+q*2-1+t:=by omega
 simp only [r1,r2,r3,r4,r5,r6,r7,r8,r9,t1,Nat.zero_add]
 by_cases h5:t<3
 ·have h5':(a:Int)+(q:Int)*2-1+t≤(a:Int)+(q:Int)*2+1:=by omega
  by_cases h6:(l:Int)≤O
  ·rw [if_pos h6] at o3
   have t2:((a:Int)+(O-(l:Int))).toNat=a+T:=by omega
   simp only [t2,M.sw_f (f:=Prod.fst),M.sw_f (f:=Prod.snd)]
   simp [h5',h6]
   all_goals omega
  ·rw [if_neg h6] at o3
   have t2:((a:Int)+O).toNat=a+T:=by omega
   simp only [t2,M.sw_f (f:=Prod.fst),M.sw_f (f:=Prod.snd)]
   simp [h5',h6]
   all_goals omega
 ·have h5':¬ (a:Int)+(q:Int)*2-1+t≤(a:Int)+(q:Int)*2+1:=by omega
  have e3:t=3:=by omega
  subst e3
  simp [h5']
  all_goals omega
theorem t122 (n m a b:Nat) (p0:Nat→Int × Int) {F:Fence} (hF:FOK F) (Y:YEnv PP YS.none):∀ Q A H nx,loopT false Try.f122.ntmps 1 (lp122 n m a b p0) (fun _ _ _=>(0:Nat)) Q A H nx→WPS Y F Try.f122.ntmps 1 (.block 0 (blkAt 0 Try.f122)) Q A H nx :=
 loopW (E:=[]) (.nil) (O:=[(132,specE e132)]) (.cons (specE_ok s132) (.nil)) (ck:=true) (L:=[0,1,2,8,9,10,11,12,17,35,45]) (f:=Try.f122) (m:=1) (id:=0) (l:=(lp122 n m a b p0)) (LI:=fun i=>[]) Y hF (by kernel_rfl) (fun _=>.nil) (by
  rintro t hp
  exact Hold.of (q122 n m a b p0 t) (bq122 n m a b p0 t ((peq122 n m a b p0 t).mp hp)))
def e122:EntB
 | [.vec 0 2 0 n,.int .i64 a,.int .i64 b,.fn 102 [] []],[.row 2 m g_1]=>some ([Row 2 m g_1,m=n,n≤100000,0≤a,a+8≤b,b-a≤200,b≤n],.tup [],[.row 2 m (fun k=>[SI ((M.brk M.oth a.toNat b.toNat 3 (pr2 g_1)) k).1,SI ((M.brk M.oth a.toNat b.toNat 3 (pr2 g_1)) k).2])])
 | _,_=>none
def Rr122 (n m:Nat) (a b:Int) (p:Nat→Int × Int):Prop:=(fun (z6:Int) (z0 z1 z3 z4:Nat)=>(fun (z2 z5:Int)=>R64 z6∧(decide ((8:Int)≤z6)=true→(8:Int)≤z6∧z6≤(200:Int)∧(4:Int)≠(0:Int)∧R64 (Int.tdiv z6 (4:Int))∧R64 z2∧R64 (a+z2)∧R64 (a+z2-(1:Int))∧(z3≤z4∧z0+(8:Nat)≤z1∧z1-z0≤(200:Nat)∧z1≤n∧m=n∧n≤(100000:Nat))∧(z3=z3∧n=n∧a=(↑z0:Int)∧z6=z5∧M.npo z6=M.npo z5∧a+z2-(1:Int)=(↑z0:Int)+(↑((z1-z0)/(4:Nat)):Int)*(2:Int)-(1:Int)+(↑z3:Int)∧m≤m∧(∀ (k:Nat),k<m→(p k).1=(M.brk M.oth z0 z1 z3 p k).1∧(p k).2=(M.brk M.oth z0 z1 z3 p k).2)∧IntKind.wrap IntKind.u64 z6=M.xr z5 z3∧True)∧(false=false→(m≤m∧∀ (k:Nat),k<m→(M.brk M.oth z0 z1 z4 p k).1=(M.brk M.oth z0 z1 z4 p k).1∧(M.brk M.oth z0 z1 z4 p k).2=(M.brk M.oth z0 z1 z4 p k).2)∧True)∧(false=true→False))∧(decide ((8:Int)≤z6)=false→(m≤m∧∀ (k:Nat),k<m→(p k).1=(M.brk M.oth z0 z1 z4 p k).1∧(p k).2=(M.brk M.oth z0 z1 z4 p k).2)∧True)) (Int.tdiv z6 (4:Int)*(2:Int)) (↑(z1-z0):Int)) (b-a) (Int.toNat a) (Int.toNat b) (0:Nat) (3:Nat)
theorem r122 (n m:Nat) (a b:Int) (p:Nat→Int × Int):VB true [] [(131,pureE e131)] Try.f122 [0,1,2,8,9,10,11,12,17,35,45] [(0,loopT false Try.f122.ntmps 1 (lp122 n m a.toNat b.toNat p) (fun _ _ _=>(0:Nat)))] [.vec 0 2 0 n,SI a,SI b,.fn 102 [] []] [.row 2 m (fun k=>[SI (p k).1,SI (p k).2])] (.tup []) [.row 2 m (fun k=>[SI ((M.brk M.oth a.toNat b.toNat 3 p) k).1,SI ((M.brk M.oth a.toNat b.toNat 3 p) k).2])]=Rr122 n m a b p:=by kernel_rfl
theorem br122 (n m:Nat) (a b:Int) (p:Nat→Int × Int) (hp:(m=n)∧(n≤100000)∧(0≤a)∧(a+8≤b)∧(b-a≤200)∧(b≤n)∧AllP []):Rr122 n m a b p:=by
 unfold Rr122
 dsimp -iota -proj -eta -zeta only
 obtain ⟨rfl,h1,a1,b1,b2,b3,-⟩:=id hp
 obtain ⟨A,rfl⟩:=Int.eq_ofNat_of_zero_le a1
 obtain ⟨B,rfl⟩:=Int.eq_ofNat_of_zero_le (show 0≤b by omega)
 have e:(B:Int)-A=((B-A:Nat):Int):=by omega
 have q4:Int.tdiv ((B-A:Nat):Int) 4=(((B-A)/4:Nat):Int):=by rw [Int.tdiv_eq_ediv_of_nonneg (by omega)]; omega
 have h8:(8:Int)≤((B-A:Nat):Int):=by omega
 have w:M.xr ((B-A:Nat):Int) 0=IntKind.wrap .u64 ((B-A:Nat):Int):=rfl
 have hR:∀ z:Int,-4000000000000≤z→z≤4000000000000→R64 z:=fun z h1 h2=>by unfold R64; omega
 have r1:=hR ((B-A:Nat):Int) (by omega) (by omega)
 have r2:=hR (((B-A)/4:Nat):Int) (by omega) (by omega)
 have r3:=hR ((((B-A)/4:Nat):Int)*2) (by omega) (by omega)
 have r4:=hR ((A:Int)+(((B-A)/4:Nat):Int)*2) (by omega) (by omega)
 have r5:=hR ((A:Int)+(((B-A)/4:Nat):Int)*2-1) (by omega) (by omega)
 simp only [Int.toNat_natCast,e,q4,w,r1,r2,r3,r4,r5]
 simp [h8,M.brk]
 all_goals omega
theorem s122:SpecOK PP 122 e122:=by
 intro xs Hs ps res Hs1 h hp
 unfold e122 at h
 split at h
 ·rename_i n a b m g_1
  cases h
  simp only [AllP.cons] at hp
  obtain ⟨Hg_1,hp⟩:=hp
  exact Spec.blocks (enterBH (Hold.of (r122 n m a b (pr2 g_1)) (br122 n m a b (pr2 g_1) hp)) (.nil) (.cons (pureE_ok s131) (.nil)) (k:=122) (by kernel_rfl) (by kernel_rfl) rfl (fun Y=>.cons (by kernel_rfl) (t122 n m a.toNat b.toNat (pr2 g_1) FOK.wide Y) (.nil))) (.row Hg_1 (fun _=>rfl) .nil)
 ·cases h
end Go.Proofs.Ytoncoofmijjgeaa.Sep
namespace Go.Proofs.Ytoncoofmijjgeaa.Sep
open Go
set_option linter.unusedVariables false
set_option linter.unusedSimpArgs false
def T115 (n m m0 a b:Nat) (lim:Int) (wb wp:Bool) (p:Nat→Int × Int) (l1 pv:Int) (q:Nat→Int × Int):Prop:=(decide ((0:Int)<(↑a:Int))=true→R64 ((↑a:Int)-(1:Int)))∧(decide ((0:Int)<(↑a:Int))=true→decide ((0:Int)<(↑a:Int))=true)∧(decide ((0:Int)<(↑a:Int))=true→decide ((0:Int)<(↑a:Int))=true)∧(decide ((0:Int)<(↑a:Int))=true→(0:Int)≤(↑a:Int)-(1:Int))∧(decide ((0:Int)<(↑a:Int))=true→(↑a:Int)-(1:Int)<(↑n:Int))∧(decide ((0:Int)<(↑a:Int))=true→decide ((0:Int)<(↑a:Int))=true)∧(decide ((0:Int)<(↑a:Int))=true→(0:Nat)+Int.toNat ((↑a:Int)-(1:Int))<m)∧(decide ((0:Int)<(↑a:Int))=true→decide ((0:Int)<(↑a:Int))=true)∧(decide ((0:Int)<(↑a:Int))=true→decide ((0:Int)<(↑a:Int))=true)∧(decide ((0:Int)<(↑a:Int))=true→(0:Int)≤pv)∧(decide ((0:Int)<(↑a:Int))=true→pv<(↑n:Int))∧(decide ((0:Int)<(↑a:Int))=true→decide ((0:Int)<(↑a:Int))=true)∧(decide ((0:Int)<(↑a:Int))=true→(0:Nat)+Int.toNat pv<m)∧(decide ((0:Int)<(↑a:Int))=true→decide ((0:Int)<(↑a:Int))=true)∧(decide ((0:Int)<(↑a:Int))=true→decide ((0:Int)<(↑a:Int))=true)∧(decide ((0:Int)<(↑a:Int))=true→decide ((0:Int)<(↑a:Int))=true)∧(decide ((0:Int)<(↑a:Int))=true→decide ((0:Int)<(↑a:Int))=true)∧(decide ((0:Int)<(↑a:Int))=true→decide ((0:Int)<(↑a:Int))=true)∧(decide ((0:Int)<(↑a:Int))=true→decide ((0:Int)<(↑a:Int))=true)∧((bif decide ((0:Int)<(↑a:Int)) then !decide (M.cmpI (q ((0:Nat)+Int.toNat ((↑a:Int)-(1:Int)))).1 (q ((0:Nat)+Int.toNat pv)).1<(0:Int)) else false)=true→(∀ (k:Nat),k<m→(q k).1=(q k).1∧(q k).2=(q k).2)∧m=n∧n≤(100000:Nat)∧(0:Int)≤(↑a:Int)∧(↑a:Int)+(1:Int)<(↑b:Int)∧(↑b:Int)≤(↑n:Int)∧(↑a:Int)≤pv∧pv<(↑b:Int)∧(Int.toNat (↑(M.peL (fun z=>z.1) (Int.toNat (↑a:Int)) (Int.toNat (↑b:Int)) (Int.toNat pv) q).2.1:Int)≤Int.toNat (↑b:Int)∧Int.toNat (↑b:Int)≤n∧m=n∧n≤(200:Nat)∧(0:Int)≤l1∧l1≤(1000:Int)∧Int.toNat (↑b:Int)-Int.toNat (↑(M.peL (fun z=>z.1) (Int.toNat (↑a:Int)) (Int.toNat (↑b:Int)) (Int.toNat pv) q).2.1:Int)<m0+(1:Nat))∧Int.toNat (↑b:Int)-Int.toNat (↑(M.peL (fun z=>z.1) (Int.toNat (↑a:Int)) (Int.toNat (↑b:Int)) (Int.toNat pv) q).2.1:Int)<b-a∧M.pdC (fun z=>z.1) M.oth (Int.toNat (↑(M.peL (fun z=>z.1) (Int.toNat (↑a:Int)) (Int.toNat (↑b:Int)) (Int.toNat pv) q).2.1:Int)) (Int.toNat (↑b:Int)) l1 wb wp (M.peL (fun z=>z.1) (Int.toNat (↑a:Int)) (Int.toNat (↑b:Int)) (Int.toNat pv) q).1=M.pdC (fun z=>z.1) M.oth a b lim wb wp p∧(0:Nat)=(0:Nat)∧n=n∧(↑(M.peL (fun z=>z.1) (Int.toNat (↑a:Int)) (Int.toNat (↑b:Int)) (Int.toNat pv) q).2.1:Int)=(↑(Int.toNat (↑(M.peL (fun z=>z.1) (Int.toNat (↑a:Int)) (Int.toNat (↑b:Int)) (Int.toNat pv) q).2.1:Int)):Int)∧(↑b:Int)=(↑(Int.toNat (↑b:Int)):Int)∧l1=l1∧wb=wb∧wp=wp∧m≤m∧(∀ (k:Nat),k<m→((M.peL (fun z=>z.1) (Int.toNat (↑a:Int)) (Int.toNat (↑b:Int)) (Int.toNat pv) q).1 k).1=((M.peL (fun z=>z.1) (Int.toNat (↑a:Int)) (Int.toNat (↑b:Int)) (Int.toNat pv) q).1 k).1∧((M.peL (fun z=>z.1) (Int.toNat (↑a:Int)) (Int.toNat (↑b:Int)) (Int.toNat pv) q).1 k).2=((M.peL (fun z=>z.1) (Int.toNat (↑a:Int)) (Int.toNat (↑b:Int)) (Int.toNat pv) q).1 k).2)∧True)∧((bif decide ((0:Int)<(↑a:Int)) then !decide (M.cmpI (q ((0:Nat)+Int.toNat ((↑a:Int)-(1:Int)))).1 (q ((0:Nat)+Int.toNat pv)).1<(0:Int)) else false)=false→(∀ (k:Nat),k<m→(q k).1=(q k).1∧(q k).2=(q k).2)∧m=n∧n≤(100000:Nat)∧(0:Int)≤(↑a:Int)∧(↑a:Int)+(1:Int)<(↑b:Int)∧(↑b:Int)≤(↑n:Int)∧(↑a:Int)≤pv∧pv<(↑b:Int)∧R64 ((↑(M.prM (fun z=>z.1) (Int.toNat (↑a:Int)) (Int.toNat (↑b:Int)) (Int.toNat pv) q):Int)-(↑a:Int))∧R64 ((↑b:Int)-(↑(M.prM (fun z=>z.1) (Int.toNat (↑a:Int)) (Int.toNat (↑b:Int)) (Int.toNat pv) q):Int))∧(8:Int)≠(0:Int)∧R64 (Int.tdiv ((↑b:Int)-(↑a:Int)) (8:Int))∧(decide ((↑(M.prM (fun z=>z.1) (Int.toNat (↑a:Int)) (Int.toNat (↑b:Int)) (Int.toNat pv) q):Int)-(↑a:Int)<(↑b:Int)-(↑(M.prM (fun z=>z.1) (Int.toNat (↑a:Int)) (Int.toNat (↑b:Int)) (Int.toNat pv) q):Int))=true→(∀ (k:Nat),k<m→(M.prP (fun z=>z.1) (Int.toNat (↑a:Int)) (Int.toNat (↑b:Int)) (Int.toNat pv) q k).1=(M.prP (fun z=>z.1) (Int.toNat (↑a:Int)) (Int.toNat (↑b:Int)) (Int.toNat pv) q k).1∧(M.prP (fun z=>z.1) (Int.toNat (↑a:Int)) (Int.toNat (↑b:Int)) (Int.toNat pv) q k).2=(M.prP (fun z=>z.1) (Int.toNat (↑a:Int)) (Int.toNat (↑b:Int)) (Int.toNat pv) q k).2)∧m=n∧n≤(200:Nat)∧(0:Int)≤(↑a:Int)∧(↑a:Int)≤(↑(M.prM (fun z=>z.1) (Int.toNat (↑a:Int)) (Int.toNat (↑b:Int)) (Int.toNat pv) q):Int)∧(↑(M.prM (fun z=>z.1) (Int.toNat (↑a:Int)) (Int.toNat (↑b:Int)) (Int.toNat pv) q):Int)≤(↑n:Int)∧(0:Int)≤l1∧l1≤(1000:Int)∧Int.toNat ((↑(M.prM (fun z=>z.1) (Int.toNat (↑a:Int)) (Int.toNat (↑b:Int)) (Int.toNat pv) q):Int)-(↑a:Int))<m0∧R64 ((↑(M.prM (fun z=>z.1) (Int.toNat (↑a:Int)) (Int.toNat (↑b:Int)) (Int.toNat pv) q):Int)+(1:Int))∧(Int.toNat ((↑(M.prM (fun z=>z.1) (Int.toNat (↑a:Int)) (Int.toNat (↑b:Int)) (Int.toNat pv) q):Int)+(1:Int))≤Int.toNat (↑b:Int)∧Int.toNat (↑b:Int)≤n∧m=n∧n≤(200:Nat)∧(0:Int)≤l1∧l1≤(1000:Int)∧Int.toNat (↑b:Int)-Int.toNat ((↑(M.prM (fun z=>z.1) (Int.toNat (↑a:Int)) (Int.toNat (↑b:Int)) (Int.toNat pv) q):Int)+(1:Int))<m0+(1:Nat))∧Int.toNat (↑b:Int)-Int.toNat ((↑(M.prM (fun z=>z.1) (Int.toNat (↑a:Int)) (Int.toNat (↑b:Int)) (Int.toNat pv) q):Int)+(1:Int))<b-a∧M.pdC (fun z=>z.1) M.oth (Int.toNat ((↑(M.prM (fun z=>z.1) (Int.toNat (↑a:Int)) (Int.toNat (↑b:Int)) (Int.toNat pv) q):Int)+(1:Int))) (Int.toNat (↑b:Int)) l1 (decide (Int.tdiv ((↑b:Int)-(↑a:Int)) (8:Int)≤(↑(M.prM (fun z=>z.1) (Int.toNat (↑a:Int)) (Int.toNat (↑b:Int)) (Int.toNat pv) q):Int)-(↑a:Int))) (M.prA (Int.toNat (↑a:Int)) (Int.toNat (↑b:Int)) (Int.toNat pv) q) (M.pdC (fun z=>z.1) M.oth (Int.toNat (↑a:Int)) (Int.toNat (↑(M.prM (fun z=>z.1) (Int.toNat (↑a:Int)) (Int.toNat (↑b:Int)) (Int.toNat pv) q):Int)) l1 true true (M.prP (fun z=>z.1) (Int.toNat (↑a:Int)) (Int.toNat (↑b:Int)) (Int.toNat pv) q))=M.pdC (fun z=>z.1) M.oth a b lim wb wp p∧(0:Nat)=(0:Nat)∧n=n∧(↑(M.prM (fun z=>z.1) (Int.toNat (↑a:Int)) (Int.toNat (↑b:Int)) (Int.toNat pv) q):Int)+(1:Int)=(↑(Int.toNat ((↑(M.prM (fun z=>z.1) (Int.toNat (↑a:Int)) (Int.toNat (↑b:Int)) (Int.toNat pv) q):Int)+(1:Int))):Int)∧(↑b:Int)=(↑(Int.toNat (↑b:Int)):Int)∧l1=l1∧decide (Int.tdiv ((↑b:Int)-(↑a:Int)) (8:Int)≤(↑(M.prM (fun z=>z.1) (Int.toNat (↑a:Int)) (Int.toNat (↑b:Int)) (Int.toNat pv) q):Int)-(↑a:Int))=decide (Int.tdiv ((↑b:Int)-(↑a:Int)) (8:Int)≤(↑(M.prM (fun z=>z.1) (Int.toNat (↑a:Int)) (Int.toNat (↑b:Int)) (Int.toNat pv) q):Int)-(↑a:Int))∧M.prA (Int.toNat (↑a:Int)) (Int.toNat (↑b:Int)) (Int.toNat pv) q=M.prA (Int.toNat (↑a:Int)) (Int.toNat (↑b:Int)) (Int.toNat pv) q∧m≤m∧(∀ (k:Nat),k<m→(M.pdC (fun z=>z.1) M.oth (Int.toNat (↑a:Int)) (Int.toNat (↑(M.prM (fun z=>z.1) (Int.toNat (↑a:Int)) (Int.toNat (↑b:Int)) (Int.toNat pv) q):Int)) l1 true true (M.prP (fun z=>z.1) (Int.toNat (↑a:Int)) (Int.toNat (↑b:Int)) (Int.toNat pv) q) k).1=(M.pdC (fun z=>z.1) M.oth (Int.toNat (↑a:Int)) (Int.toNat (↑(M.prM (fun z=>z.1) (Int.toNat (↑a:Int)) (Int.toNat (↑b:Int)) (Int.toNat pv) q):Int)) l1 true true (M.prP (fun z=>z.1) (Int.toNat (↑a:Int)) (Int.toNat (↑b:Int)) (Int.toNat pv) q) k).1∧(M.pdC (fun z=>z.1) M.oth (Int.toNat (↑a:Int)) (Int.toNat (↑(M.prM (fun z=>z.1) (Int.toNat (↑a:Int)) (Int.toNat (↑b:Int)) (Int.toNat pv) q):Int)) l1 true true (M.prP (fun z=>z.1) (Int.toNat (↑a:Int)) (Int.toNat (↑b:Int)) (Int.toNat pv) q) k).2=(M.pdC (fun z=>z.1) M.oth (Int.toNat (↑a:Int)) (Int.toNat (↑(M.prM (fun z=>z.1) (Int.toNat (↑a:Int)) (Int.toNat (↑b:Int)) (Int.toNat pv) q):Int)) l1 true true (M.prP (fun z=>z.1) (Int.toNat (↑a:Int)) (Int.toNat (↑b:Int)) (Int.toNat pv) q) k).2)∧True)∧(decide ((↑(M.prM (fun z=>z.1) (Int.toNat (↑a:Int)) (Int.toNat (↑b:Int)) (Int.toNat pv) q):Int)-(↑a:Int)<(↑b:Int)-(↑(M.prM (fun z=>z.1) (Int.toNat (↑a:Int)) (Int.toNat (↑b:Int)) (Int.toNat pv) q):Int))=false→R64 ((↑(M.prM (fun z=>z.1) (Int.toNat (↑a:Int)) (Int.toNat (↑b:Int)) (Int.toNat pv) q):Int)+(1:Int))∧(∀ (k:Nat),k<m→(M.prP (fun z=>z.1) (Int.toNat (↑a:Int)) (Int.toNat (↑b:Int)) (Int.toNat pv) q k).1=(M.prP (fun z=>z.1) (Int.toNat (↑a:Int)) (Int.toNat (↑b:Int)) (Int.toNat pv) q k).1∧(M.prP (fun z=>z.1) (Int.toNat (↑a:Int)) (Int.toNat (↑b:Int)) (Int.toNat pv) q k).2=(M.prP (fun z=>z.1) (Int.toNat (↑a:Int)) (Int.toNat (↑b:Int)) (Int.toNat pv) q k).2)∧m=n∧n≤(200:Nat)∧(0:Int)≤(↑(M.prM (fun z=>z.1) (Int.toNat (↑a:Int)) (Int.toNat (↑b:Int)) (Int.toNat pv) q):Int)+(1:Int)∧(↑(M.prM (fun z=>z.1) (Int.toNat (↑a:Int)) (Int.toNat (↑b:Int)) (Int.toNat pv) q):Int)+(1:Int)≤(↑b:Int)∧(↑b:Int)≤(↑n:Int)∧(0:Int)≤l1∧l1≤(1000:Int)∧Int.toNat ((↑b:Int)-((↑(M.prM (fun z=>z.1) (Int.toNat (↑a:Int)) (Int.toNat (↑b:Int)) (Int.toNat pv) q):Int)+(1:Int)))<m0∧(Int.toNat (↑a:Int)≤Int.toNat (↑(M.prM (fun z=>z.1) (Int.toNat (↑a:Int)) (Int.toNat (↑b:Int)) (Int.toNat pv) q):Int)∧Int.toNat (↑(M.prM (fun z=>z.1) (Int.toNat (↑a:Int)) (Int.toNat (↑b:Int)) (Int.toNat pv) q):Int)≤n∧m=n∧n≤(200:Nat)∧(0:Int)≤l1∧l1≤(1000:Int)∧Int.toNat (↑(M.prM (fun z=>z.1) (Int.toNat (↑a:Int)) (Int.toNat (↑b:Int)) (Int.toNat pv) q):Int)-Int.toNat (↑a:Int)<m0+(1:Nat))∧Int.toNat (↑(M.prM (fun z=>z.1) (Int.toNat (↑a:Int)) (Int.toNat (↑b:Int)) (Int.toNat pv) q):Int)-Int.toNat (↑a:Int)<b-a∧M.pdC (fun z=>z.1) M.oth (Int.toNat (↑a:Int)) (Int.toNat (↑(M.prM (fun z=>z.1) (Int.toNat (↑a:Int)) (Int.toNat (↑b:Int)) (Int.toNat pv) q):Int)) l1 (decide (Int.tdiv ((↑b:Int)-(↑a:Int)) (8:Int)≤(↑b:Int)-(↑(M.prM (fun z=>z.1) (Int.toNat (↑a:Int)) (Int.toNat (↑b:Int)) (Int.toNat pv) q):Int))) (M.prA (Int.toNat (↑a:Int)) (Int.toNat (↑b:Int)) (Int.toNat pv) q) (M.pdC (fun z=>z.1) M.oth (Int.toNat ((↑(M.prM (fun z=>z.1) (Int.toNat (↑a:Int)) (Int.toNat (↑b:Int)) (Int.toNat pv) q):Int)+(1:Int))) (Int.toNat (↑b:Int)) l1 true true (M.prP (fun z=>z.1) (Int.toNat (↑a:Int)) (Int.toNat (↑b:Int)) (Int.toNat pv) q))=M.pdC (fun z=>z.1) M.oth a b lim wb wp p∧(0:Nat)=(0:Nat)∧n=n∧(↑a:Int)=(↑(Int.toNat (↑a:Int)):Int)∧(↑(M.prM (fun z=>z.1) (Int.toNat (↑a:Int)) (Int.toNat (↑b:Int)) (Int.toNat pv) q):Int)=(↑(Int.toNat (↑(M.prM (fun z=>z.1) (Int.toNat (↑a:Int)) (Int.toNat (↑b:Int)) (Int.toNat pv) q):Int)):Int)∧l1=l1∧decide (Int.tdiv ((↑b:Int)-(↑a:Int)) (8:Int)≤(↑b:Int)-(↑(M.prM (fun z=>z.1) (Int.toNat (↑a:Int)) (Int.toNat (↑b:Int)) (Int.toNat pv) q):Int))=decide (Int.tdiv ((↑b:Int)-(↑a:Int)) (8:Int)≤(↑b:Int)-(↑(M.prM (fun z=>z.1) (Int.toNat (↑a:Int)) (Int.toNat (↑b:Int)) (Int.toNat pv) q):Int))∧M.prA (Int.toNat (↑a:Int)) (Int.toNat (↑b:Int)) (Int.toNat pv) q=M.prA (Int.toNat (↑a:Int)) (Int.toNat (↑b:Int)) (Int.toNat pv) q∧m≤m∧(∀ (k:Nat),k<m→(M.pdC (fun z=>z.1) M.oth (Int.toNat ((↑(M.prM (fun z=>z.1) (Int.toNat (↑a:Int)) (Int.toNat (↑b:Int)) (Int.toNat pv) q):Int)+(1:Int))) (Int.toNat (↑b:Int)) l1 true true (M.prP (fun z=>z.1) (Int.toNat (↑a:Int)) (Int.toNat (↑b:Int)) (Int.toNat pv) q) k).1=(M.pdC (fun z=>z.1) M.oth (Int.toNat ((↑(M.prM (fun z=>z.1) (Int.toNat (↑a:Int)) (Int.toNat (↑b:Int)) (Int.toNat pv) q):Int)+(1:Int))) (Int.toNat (↑b:Int)) l1 true true (M.prP (fun z=>z.1) (Int.toNat (↑a:Int)) (Int.toNat (↑b:Int)) (Int.toNat pv) q) k).1∧(M.pdC (fun z=>z.1) M.oth (Int.toNat ((↑(M.prM (fun z=>z.1) (Int.toNat (↑a:Int)) (Int.toNat (↑b:Int)) (Int.toNat pv) q):Int)+(1:Int))) (Int.toNat (↑b:Int)) l1 true true (M.prP (fun z=>z.1) (Int.toNat (↑a:Int)) (Int.toNat (↑b:Int)) (Int.toNat pv) q) k).2=(M.pdC (fun z=>z.1) M.oth (Int.toNat ((↑(M.prM (fun z=>z.1) (Int.toNat (↑a:Int)) (Int.toNat (↑b:Int)) (Int.toNat pv) q):Int)+(1:Int))) (Int.toNat (↑b:Int)) l1 true true (M.prP (fun z=>z.1) (Int.toNat (↑a:Int)) (Int.toNat (↑b:Int)) (Int.toNat pv) q) k).2)∧True))
theorem T115_ok {n m m0 a b:Nat} {lim:Int} {wb wp:Bool} {p:Nat→Int × Int} {l1:Int} {V:Nat} {q:Nat→Int × Int} (h12:12<b-a) (hb:b≤n) (hm:m=n) (hn:n≤200) (h0:b-a<m0+1) (l0:0≤l1) (l2:l1≤1000) (v1:a≤V) (v2:V<b)
  (hR:M.pdC (fun z=>z.1) M.oth a b lim wb wp p =
   if decide (0<a∧¬ (q (a-1)).1<(q V).1)=true then M.pdC (fun z=>z.1) M.oth (M.peL (fun z=>z.1) a b V q).2.1 b l1 wb wp (M.peL (fun z=>z.1) a b V q).1
   else if M.prM (fun z=>z.1) a b V q-a<b-M.prM (fun z=>z.1) a b V q then
    M.pdC (fun z=>z.1) M.oth (M.prM (fun z=>z.1) a b V q+1) b l1 (decide ((b-a)/8≤M.prM (fun z=>z.1) a b V q-a)) (M.prA a b V q) (M.pdC (fun z=>z.1) M.oth a (M.prM (fun z=>z.1) a b V q) l1 true true (M.prP (fun z=>z.1) a b V q))
   else
    M.pdC (fun z=>z.1) M.oth a (M.prM (fun z=>z.1) a b V q) l1 (decide ((b-a)/8≤b-M.prM (fun z=>z.1) a b V q)) (M.prA a b V q) (M.pdC (fun z=>z.1) M.oth (M.prM (fun z=>z.1) a b V q+1) b l1 true true (M.prP (fun z=>z.1) a b V q))):T115 n m m0 a b lim wb wp p l1 V q:=by
 subst hm
 unfold T115
 have e1:=M.pe_in (key:=fun z:Int × Int=>z.1) (a:=a) (b:=b) (pv:=V) (p:=q) (by omega)
 have e2:=M.pr_in (key:=fun z:Int × Int=>z.1) (a:=a) (b:=b) (pv:=V) (p:=q) (by omega)
 rw [Int.toNat_natCast a,Int.toNat_natCast b,Int.toNat_natCast V]
 generalize M.peL (fun z:Int × Int=>z.1) a b V q=E at *
 generalize M.prM (fun z:Int × Int=>z.1) a b V q=g at *
 generalize M.prP (fun z:Int × Int=>z.1) a b V q=r at *
 generalize M.prA a b V q=A at *
 simp only [Int.toNat_natCast,M.cmpI_lt,Nat.zero_add]
 have t1:((a:Int)-1).toNat=a-1:=by omega
 have t2:((g:Int)+1).toNat=g+1:=by omega
 have t3:((b:Int)-a).tdiv 8=(((b-a)/8:Nat):Int):=by rw [Int.tdiv_eq_ediv_of_nonneg (by omega)]; omega
 have hR':∀ z:Int,-4000000000000≤z→z≤4000000000000→R64 z:=fun z h1 h2=>by unfold R64; omega
 have r1:=hR' ((a:Int)-1) (by omega) (by omega)
 have r2:=hR' ((g:Int)-a) (by omega) (by omega)
 have r3:=hR' ((b:Int)-g) (by omega) (by omega)
 have r4:=hR' (((b-a)/8:Nat):Int) (by omega) (by omega)
 have r5:=hR' ((g:Int)+1) (by omega) (by omega)
 simp only [t1,t2,t3,r1,r2,r3,r4,r5]
 have d1:decide ((((b-a)/8:Nat):Int)≤(g:Int)-a)=decide ((b-a)/8≤g-a):=by apply decide_eq_decide.2; omega
 have d2:decide ((((b-a)/8:Nat):Int)≤(b:Int)-g)=decide ((b-a)/8≤b-g):=by apply decide_eq_decide.2; omega
 have d3:decide ((g:Int)-a<(b:Int)-g)=decide (g-a<b-g):=by apply decide_eq_decide.2; omega
 have d4:decide ((0:Int)<(a:Int))=decide (0<a):=by apply decide_eq_decide.2; omega
 simp only [d1,d2,d3,d4]
 by_cases c1:0<a∧¬ (q (a-1)).1<(q V).1
 ·rw [if_pos (by simpa using c1)] at hR
  obtain ⟨c1,c2⟩:=c1
  rw [← hR]
  simp [c1,c2]
  omega
 ·rw [if_neg (by simpa using c1)] at hR
  have c3:(bif decide (0<a) then !decide ((q (a-1)).1<(q V).1) else false)=false:=by
   by_cases c2:0<a
   ·have:(q (a-1)).1<(q V).1:=Decidable.byContradiction fun h=>c1 ⟨c2,h⟩
    simp [this]
   ·simp [c2]
  simp only [c3]
  by_cases c4:g-a<b-g
  ·rw [if_pos c4] at hR
   rw [← hR]
   simp [c4]
   omega
  ·rw [if_neg c4] at hR
   rw [← hR]
   simp [c4]
   omega
end Go.Proofs.Ytoncoofmijjgeaa.Sep
namespace Go.Proofs.Ytoncoofmijjgeaa.Sep
open Go
set_option linter.unusedVariables false
set_option linter.unusedSimpArgs false
def e115 (M0:Nat):EntB
 | [.vec 0 2 0 n,.int .i64 a,.int .i64 b,.int .i64 lim,.fn 102 [] []],[.row 2 m g_1]=>some ([Row 2 m g_1,m=n,n≤200,0≤a,a≤b,b≤n,0≤lim,lim≤1000,(b-a).toNat<M0],.tup [],[.row 2 m (fun k=>[SI (M.pdC (fun z:Int × Int=>z.1) M.oth a.toNat b.toNat lim true true (pr2 g_1) k).1,SI (M.pdC (fun z:Int × Int=>z.1) M.oth a.toNat b.toNat lim true true (pr2 g_1) k).2])])
 | _,_=>none
def lp115 (m0 n m:Nat) (a0 b0:Nat) (l0:Int) (p0:Nat→Int × Int):LoopS where
 ι:=Nat × Nat × Int × Bool × Bool × (Nat→Int × Int)
 β:=Nat→Int × Int
 pre:=fun s=>s.1≤s.2.1∧s.2.1≤n∧m=n∧n≤200∧0≤s.2.2.1∧s.2.2.1≤1000∧s.2.1-s.1<m0+1
 μ:=fun s=>s.2.1-s.1
 next:=fun s A H _=>((asI (getS A 1)).toNat,(asI (getS A 2)).toNat,asI (getS A 3),asB (getS A 10),asB (getS A 11),pr2 (rwB H 0))
 out:=fun s=>M.pdC (fun z:Int × Int=>z.1) M.oth s.1 s.2.1 s.2.2.1 s.2.2.2.1 s.2.2.2.2.1 s.2.2.2.2.2
 early _:=true
 SA:=fun s=>[(0,.vec 0 2 0 n),(1,SI s.1),(2,SI s.2.1),(3,SI s.2.2.1),(4,.fn 102 [] []),(10,.bool s.2.2.2.1),(11,.bool s.2.2.2.2.1)]
 SH:=fun s=>[(0,.row 2 m (fun k=>[SI (s.2.2.2.2.2 k).1,SI (s.2.2.2.2.2 k).2]))]
 n0:=1
 NA _:=[]
 NH q:=[(0,.row 2 m (fun k=>[SI (q k).1,SI (q k).2]))]
 n1:=1
 RA _:=[]
 RH q:=[(0,.row 2 m (fun k=>[SI (q k).1,SI (q k).2]))]
def Rq115 (m0 n m:Nat) (a0 b0:Nat) (l0:Int) (p0:Nat→Int × Int) (a b:Nat) (lim:Int) (wb wp:Bool) (p:Nat→Int × Int):Prop:=(fun (z3:Bool) (z6 z7:Int) (z9 z20 z21:Nat) (z8 z11 z24 z27:Prop)=>(fun (z14:Bool) (z22:Int) (z0 z1:Nat) (z2 z13 z15 z16 z28:Prop)=>(fun (z5 z10 z12 z23:Int) (z17 z18 z19:Nat) (z4:Prop)=>(fun (z25 z26:Bool) (z29:Int)=>R64 (z6-z7)∧(decide (z6-z7≤(12:Int))=true→z8∧m=n∧z11∧z16∧z7≤z6∧z13∧z27∧m≤m∧(∀ (k:Nat),k<m→(M.insS (fun z=>z.1) z0 z1 p k).1=(M.pdC (fun z=>z.1) M.oth a b lim wb wp p k).1∧(M.insS (fun z=>z.1) z0 z1 p k).2=(M.pdC (fun z=>z.1) M.oth a b lim wb wp p k).2)∧True)∧(decide (z6-z7≤(12:Int))=false→(decide (lim=(0:Int))=true→z8∧m=n∧z11∧z16∧z7<z6∧z13∧z27∧m≤m∧(∀ (k:Nat),k<m→(M.hpS (fun z=>z.1) z0 z1 p k).1=(M.pdC (fun z=>z.1) M.oth a b lim wb wp p k).1∧(M.hpS (fun z=>z.1) z0 z1 p k).2=(M.pdC (fun z=>z.1) M.oth a b lim wb wp p k).2)∧True)∧(decide (lim=(0:Int))=false→((!wb)=true→z8∧m=n∧z11∧z16∧z28∧z6-z7≤(200:Int)∧z13∧R64 (lim-(1:Int))∧z4∧m=n∧z11∧z16∧z28∧z13∧(decide (z12=(2:Int))=true→z4∧m=n∧z11∧z16∧z7<z6∧z13∧R64 z22∧R64 (z5-z7)∧R64 (z22-(z5-z7))∧z24∧z15∧z15∧(z14=true→(∀ (k:Nat),k<m→(M.rvL z17 z0 z18 (M.brk M.oth z0 z1 z21 p) k).1=(M.rvL z17 z0 z18 (M.brk M.oth z0 z1 z21 p) k).1∧(M.rvL z17 z0 z18 (M.brk M.oth z0 z1 z21 p) k).2=(M.rvL z17 z0 z18 (M.brk M.oth z0 z1 z21 p) k).2)∧m=n∧z11∧z16∧z7<z6∧z13∧((M.pis (fun z=>z.1) z0 z1 z20 z19 (M.rvL z17 z0 z18 (M.brk M.oth z0 z1 z21 p))).2=true→z27∧m≤m∧(∀ (k:Nat),k<m→((M.pis (fun z=>z.1) z0 z1 z20 z19 (M.rvL z17 z0 z18 (M.brk M.oth z0 z1 z21 p))).1 k).1=(M.pdC (fun z=>z.1) M.oth a b lim wb wp p k).1∧((M.pis (fun z=>z.1) z0 z1 z20 z19 (M.rvL z17 z0 z18 (M.brk M.oth z0 z1 z21 p))).1 k).2=(M.pdC (fun z=>z.1) M.oth a b lim wb wp p k).2)∧True)∧((M.pis (fun z=>z.1) z0 z1 z20 z19 (M.rvL z17 z0 z18 (M.brk M.oth z0 z1 z21 p))).2=false→z2∧T115 n m m0 a b lim wb wp p (lim-1) (z22-(z5-z7)) ((M.pis (fun z=>z.1) z0 z1 z20 z19 (M.rvL z17 z0 z18 (M.brk M.oth z0 z1 z21 p))).1)))∧(z14=false→z2∧T115 n m m0 a b lim wb wp p (lim-1) (z22-(z5-z7)) (M.rvL z17 z0 z18 (M.brk M.oth z0 z1 z21 p))))∧(decide (z12=(2:Int))=false→z24∧z15∧z15∧(z25=true→z4∧m=n∧z11∧z16∧z7<z6∧z13∧((M.pis (fun z=>z.1) z0 z1 z20 z19 (M.brk M.oth z0 z1 z21 p)).2=true→z27∧m≤m∧(∀ (k:Nat),k<m→((M.pis (fun z=>z.1) z0 z1 z20 z19 (M.brk M.oth z0 z1 z21 p)).1 k).1=(M.pdC (fun z=>z.1) M.oth a b lim wb wp p k).1∧((M.pis (fun z=>z.1) z0 z1 z20 z19 (M.brk M.oth z0 z1 z21 p)).1 k).2=(M.pdC (fun z=>z.1) M.oth a b lim wb wp p k).2)∧True)∧((M.pis (fun z=>z.1) z0 z1 z20 z19 (M.brk M.oth z0 z1 z21 p)).2=false→z2∧T115 n m m0 a b lim wb wp p (lim-1) z5 ((M.pis (fun z=>z.1) z0 z1 z20 z19 (M.brk M.oth z0 z1 z21 p)).1)))∧(z25=false→z2∧T115 n m m0 a b lim wb wp p (lim-1) z5 (M.brk M.oth z0 z1 z21 p))))∧((!wb)=false→z8∧m=n∧z11∧z16∧z28∧z13∧(decide (z23=(2:Int))=true→z8∧m=n∧z11∧z16∧z7<z6∧z13∧R64 z22∧R64 (z10-z7)∧R64 z29∧z24∧z15∧z15∧(z14=true→(∀ (k:Nat),k<m→(M.rvL z17 z0 z18 p k).1=(M.rvL z17 z0 z18 p k).1∧(M.rvL z17 z0 z18 p k).2=(M.rvL z17 z0 z18 p k).2)∧m=n∧z11∧z16∧z7<z6∧z13∧((M.pis (fun z=>z.1) z0 z1 z20 z19 (M.rvL z17 z0 z18 p)).2=true→z27∧m≤m∧(∀ (k:Nat),k<m→((M.pis (fun z=>z.1) z0 z1 z20 z19 (M.rvL z17 z0 z18 p)).1 k).1=(M.pdC (fun z=>z.1) M.oth a b lim wb wp p k).1∧((M.pis (fun z=>z.1) z0 z1 z20 z19 (M.rvL z17 z0 z18 p)).1 k).2=(M.pdC (fun z=>z.1) M.oth a b lim wb wp p k).2)∧True)∧((M.pis (fun z=>z.1) z0 z1 z20 z19 (M.rvL z17 z0 z18 p)).2=false→z2∧T115 n m m0 a b lim wb wp p lim z29 ((M.pis (fun z=>z.1) z0 z1 z20 z19 (M.rvL z17 z0 z18 p)).1)))∧(z14=false→z2∧T115 n m m0 a b lim wb wp p lim z29 (M.rvL z17 z0 z18 p)))∧(decide (z23=(2:Int))=false→z24∧z15∧z15∧(z26=true→z8∧m=n∧z11∧z16∧z7<z6∧z13∧((M.pis (fun z=>z.1) z0 z1 z20 z19 p).2=true→z27∧m≤m∧(∀ (k:Nat),k<m→((M.pis (fun z=>z.1) z0 z1 z20 z19 p).1 k).1=(M.pdC (fun z=>z.1) M.oth a b lim wb wp p k).1∧((M.pis (fun z=>z.1) z0 z1 z20 z19 p).1 k).2=(M.pdC (fun z=>z.1) M.oth a b lim wb wp p k).2)∧True)∧((M.pis (fun z=>z.1) z0 z1 z20 z19 p).2=false→z2∧T115 n m m0 a b lim wb wp p lim z10 ((M.pis (fun z=>z.1) z0 z1 z20 z19 p).1)))∧(z26=false→z2∧T115 n m m0 a b lim wb wp p lim z10 (p))))))) (bif z3 then decide (z12=(1:Int)) else false) (bif z3 then decide (z23=(1:Int)) else false) (z22-(z10-z7))) (↑(M.cpV (fun z=>z.1) z0 z1 (M.brk M.oth z0 z1 z21 p)):Int) (↑(M.cpV (fun z=>z.1) z0 z1 p):Int) (M.cpH (fun z=>z.1) z0 z1 (M.brk M.oth z0 z1 z21 p)) (M.cpH (fun z=>z.1) z0 z1 p) (z1-z0) (z1-z9) (z0+z9) (∀ (k:Nat),k<m→(M.brk M.oth z0 z1 z21 p k).1=(M.brk M.oth z0 z1 z21 p k).1∧(M.brk M.oth z0 z1 z21 p k).2=(M.brk M.oth z0 z1 z21 p k).2)) (bif z3 then decide ((1:Int)=(1:Int)) else false) (z6-(1:Int)) (Int.toNat z7) (Int.toNat z6) (decide ((0:Int)<z7)=true→decide ((0:Int)<z7)=true) (z6≤(↑n:Int)) (z3=true→z3=true) ((0:Int)≤z7) (z7+(8:Int)≤z6)) (bif wb then wp else false) (↑b:Int) (↑a:Int) (1:Nat) (5:Nat) (3:Nat) (∀ (k:Nat),k<m→(p k).1=(p k).1∧(p k).2=(p k).2) (n≤(100000:Nat)) (wb=true→wb=true) (true=true)
theorem q115 (m0 n m:Nat) (a0 b0:Nat) (l0:Int) (p0:Nat→Int × Int) (a b:Nat) (lim:Int) (wb wp:Bool) (p:Nat→Int × Int):VL true [] [(102,pureE e102),(120,specW e120),(121,specW e121),(122,specW e122),(123,specW e123),(124,specW e124),(125,specW e125),(126,specW e126),(127,specW e127),(115,specW (e115 m0))] YS.none Try.f115 1 [0,1,2,3,4,10,11,12,13,14,15,16,17,18,19,20,25,32,39,56,75,80,97,125] [] 0 (lp115 m0 n m a0 b0 l0 p0) ((a,b,lim,wb,wp,p))=Rq115 m0 n m a0 b0 l0 p0 a b lim wb wp p:=by kernel_rfl
theorem peq115 (m0 n m:Nat) (a0 b0:Nat) (l0:Int) (p0:Nat→Int × Int) (a b:Nat) (lim:Int) (wb wp:Bool) (p:Nat→Int × Int):(lp115 m0 n m a0 b0 l0 p0).pre ((a,b,lim,wb,wp,p))=(a≤b∧b≤n∧m=n∧n≤(200:Nat)∧(0:Int)≤lim∧lim≤(1000:Int)∧b-a<m0+(1:Nat)):=by kernel_rfl
theorem bq115 (m0 n m:Nat) (a0 b0:Nat) (l0:Int) (p0:Nat→Int × Int) (a b:Nat) (lim:Int) (wb wp:Bool) (p:Nat→Int × Int) (hp:a≤b∧b≤n∧m=n∧n≤(200:Nat)∧(0:Int)≤lim∧lim≤(1000:Int)∧b-a<m0+(1:Nat)):Rq115 m0 n m a0 b0 l0 p0 a b lim wb wp p:=by
 unfold Rq115
 dsimp -iota -proj -eta -zeta only
 obtain ⟨h1,h2,rfl,h4,h5,h6,h7⟩:=id hp
 have hR:∀ z:Int,-4000000000000≤z→z≤4000000000000→R64 z:=fun z h1 h2=>by unfold R64; omega
 have r1:=hR ((b:Int)-a) (by omega) (by omega)
 have r2:=hR (lim-1) (by omega) (by omega)
 have r3:=hR ((b:Int)-1) (by omega) (by omega)
 simp only [Int.toNat_natCast,r1,r2,r3]
 by_cases h12:b-a≤12
 ·have h12':(b:Int)-a≤12:=by omega
  have e:=@M.pdC_eq (Int × Int) (fun z:Int × Int=>z.1) M.oth a b lim wb wp p
  rw [if_pos h12] at e
  simp only [e]
  simp [h12']
  omega
 have h12':¬ (b:Int)-a≤12:=by omega
 by_cases hl:lim=0
 ·have e:=@M.pdC_eq (Int × Int) (fun z:Int × Int=>z.1) M.oth a b lim wb wp p
  rw [if_neg h12,if_pos hl] at e
  simp only [e]
  simp [h12',hl]
  omega
 have hv:=@M.pqV_in (Int × Int) (fun z:Int × Int=>z.1) M.oth a b wb p (by omega)
 have e:=@M.pdC_eq (Int × Int) (fun z:Int × Int=>z.1) M.oth a b lim wb wp p
 rw [if_neg h12,if_neg hl] at e
 have m1:(M.pqI (fun z:Int × Int=>z.1) M.oth a b wb wp p).2=true→M.pdC (fun z:Int × Int=>z.1) M.oth a b lim wb wp p=(M.pqI (fun z:Int × Int=>z.1) M.oth a b wb wp p).1:=fun h=>by rw [e,if_pos h]
 have m2:(M.pqI (fun z:Int × Int=>z.1) M.oth a b wb wp p).2=false→T115 m m m0 a b lim wb wp p (M.pqL lim wb) (M.pqV (fun z:Int × Int=>z.1) M.oth a b wb p) (M.pqI (fun z:Int × Int=>z.1) M.oth a b wb wp p).1:=fun h=>by
  rw [if_neg (by rw [h]; decide)] at e
  exact T115_ok (by omega) h2 rfl h4 h7 (by unfold M.pqL; split <;> omega) (by unfold M.pqL; split <;> omega) hv.1 hv.2 e
 clear e
 have q1:M.pqL lim false=lim-1:=rfl
 have q2:M.pqL lim true=lim:=rfl
 have c012:∀ q:Nat→Int × Int,M.cpH (fun z:Int × Int=>z.1) a b q=0∨M.cpH (fun z:Int × Int=>z.1) a b q=1∨M.cpH (fun z:Int × Int=>z.1) a b q=2:=fun q=>by
  unfold M.cpH
  split
  ·simp
  ·split <;> simp
 have cin:∀ q:Nat→Int × Int,a≤M.cpV (fun z:Int × Int=>z.1) a b q∧M.cpV (fun z:Int × Int=>z.1) a b q<b:=fun q=>M.cpV_in (by omega)
 have ec:∀ q:Nat→Int × Int,((b-1-(M.cpV (fun z:Int × Int=>z.1) a b q-a):Nat):Int)=(b:Int)-1-((M.cpV (fun z:Int × Int=>z.1) a b q:Int)-a):=fun q=>by have:=cin q; omega
 have rr1:∀ q:Nat→Int × Int,R64 ((M.cpV (fun z:Int × Int=>z.1) a b q:Int)-a):=fun q=>by have:=cin q; exact hR _ (by omega) (by omega)
 have rr2:∀ q:Nat→Int × Int,R64 ((b:Int)-1-((M.cpV (fun z:Int × Int=>z.1) a b q:Int)-a)):=fun q=>by have:=cin q; exact hR _ (by omega) (by omega)
 have g1:(a:Int)+8≤b:=by omega
 have g2:(b:Int)-a≤200:=by omega
 have g3:(a:Int)<b:=by omega
 have g4:(a:Int)≤b:=by omega
 have g5:(b:Int)≤m:=by omega
 have g6:m≤100000:=by omega
 have g7:(0:Int)≤a:=by omega
 simp only [rr1,rr2]
 obtain ⟨B,hB'⟩ : ∃ B,B=M.brk M.oth a b 3 p:=⟨_,rfl⟩
 have hB:=hB'.symm
 simp only [hB]
 cases wb
 ·by_cases hh:M.cpH (fun z:Int × Int=>z.1) a b B=2
  ·have eV:M.pqV (fun z:Int × Int=>z.1) M.oth a b false p=b-1-(M.cpV (fun z:Int × Int=>z.1) a b B-a):=by simp [M.pqV,M.pqT,M.pqB,hB,hh]
   have eI:M.pqI (fun z:Int × Int=>z.1) M.oth a b false wp p=(M.rvL (b-a) a (b-1) B,false):=by simp [M.pqI,M.pqG,M.pqR,M.pqT,M.pqB,hB,hh]
   rw [eI,eV,q1,ec] at m2
   have m2:=m2 rfl
   simp [h12',hl,hh,m2,g1,g2,g3,g4,g5,g6,g7]
  ·have eV:M.pqV (fun z:Int × Int=>z.1) M.oth a b false p=M.cpV (fun z:Int × Int=>z.1) a b B:=by simp [M.pqV,M.pqT,M.pqB,hB,hh]
   have eI:M.pqI (fun z:Int × Int=>z.1) M.oth a b false wp p=(B,false):=by simp [M.pqI,M.pqG,M.pqR,M.pqT,M.pqB,hB,hh]
   rw [eI,eV,q1] at m2
   have m2:=m2 rfl
   simp [h12',hl,hh,m2,g1,g2,g3,g4,g5,g6,g7]
 ·rcases c012 p with hh | hh | hh
  ·have eV:M.pqV (fun z:Int × Int=>z.1) M.oth a b true p=M.cpV (fun z:Int × Int=>z.1) a b p:=by simp [M.pqV,M.pqT,M.pqB,hh]
   have eI:M.pqI (fun z:Int × Int=>z.1) M.oth a b true wp p=(p,false):=by cases wp <;> simp [M.pqI,M.pqG,M.pqR,M.pqT,M.pqB,hh]
   rw [eI,eV,q2] at m2
   have m2:=m2 rfl
   cases wp <;> simp [h12',hl,hh,m2,g1,g2,g3,g4,g5,g6,g7]
  ·have eV:M.pqV (fun z:Int × Int=>z.1) M.oth a b true p=M.cpV (fun z:Int × Int=>z.1) a b p:=by simp [M.pqV,M.pqT,M.pqB,hh]
   cases wp
   ·have eI:M.pqI (fun z:Int × Int=>z.1) M.oth a b true false p=(p,false):=by simp [M.pqI,M.pqG,M.pqR,M.pqT,M.pqB,hh]
    rw [eI,eV,q2] at m2
    have m2:=m2 rfl
    simp [h12',hl,hh,m2,g1,g2,g3,g4,g5,g6,g7]
   ·have eI:M.pqI (fun z:Int × Int=>z.1) M.oth a b true true p=M.pis (fun z:Int × Int=>z.1) a b 5 (a+1) p:=by simp [M.pqI,M.pqG,M.pqR,M.pqT,M.pqB,hh]
    rw [eI] at m1
    rw [eI,eV,q2] at m2
    simp [h12',hl,hh,g1,g2,g3,g4,g5,g6,g7]
    generalize M.pis (fun z:Int × Int=>z.1) a b 5 (a+1) p=I at *
    refine ⟨fun h => ?_,fun h=>m2 h⟩
    rw [m1 h]
    simp
  ·have eV:M.pqV (fun z:Int × Int=>z.1) M.oth a b true p=b-1-(M.cpV (fun z:Int × Int=>z.1) a b p-a):=by simp [M.pqV,M.pqT,M.pqB,hh]
   cases wp
   ·have eI:M.pqI (fun z:Int × Int=>z.1) M.oth a b true false p=(M.rvL (b-a) a (b-1) p,false):=by simp [M.pqI,M.pqG,M.pqR,M.pqT,M.pqB,hh]
    rw [eI,eV,q2,ec] at m2
    have m2:=m2 rfl
    simp [h12',hl,hh,m2,g1,g2,g3,g4,g5,g6,g7]
   ·have eI:M.pqI (fun z:Int × Int=>z.1) M.oth a b true true p=M.pis (fun z:Int × Int=>z.1) a b 5 (a+1) (M.rvL (b-a) a (b-1) p):=by simp [M.pqI,M.pqG,M.pqR,M.pqT,M.pqB,hh]
    rw [eI] at m1
    rw [eI,eV,q2,ec] at m2
    simp [h12',hl,hh,g1,g2,g3,g4,g5,g6,g7]
    generalize M.pis (fun z:Int × Int=>z.1) a b 5 (a+1) (M.rvL (b-a) a (b-1) p)=I at *
    refine ⟨fun h => ?_,fun h=>m2 h⟩
    rw [m1 h]
    simp
theorem t115 (m0 n m:Nat) (a0 b0:Nat) (l0:Int) (p0:Nat→Int × Int) (ih:SpecOK PP 115 (e115 m0)) {F:Fence} (hF:FOK F) (Y:YEnv PP YS.none):∀ Q A H nx,loopT false Try.f115.ntmps 1 (lp115 m0 n m a0 b0 l0 p0) (fun _ _ _=>(a0,b0,l0,true,true,p0)) Q A H nx→WPS Y F Try.f115.ntmps 1 (.block 0 (blkAt 0 Try.f115)) Q A H nx :=
 loopW (E:=[]) (.nil) (O:=[(102,pureE e102),(120,specW e120),(121,specW e121),(122,specW e122),(123,specW e123),(124,specW e124),(125,specW e125),(126,specW e126),(127,specW e127),(115,specW (e115 m0))]) (.cons (pureE_ok s102) (.cons (specW_ok s120) (.cons (specW_ok s121) (.cons (specW_ok s122) (.cons (specW_ok s123) (.cons (specW_ok s124) (.cons (specW_ok s125) (.cons (specW_ok s126) (.cons (specW_ok s127) (.cons (specW_ok ih) (.nil))))))))))) (ck:=true) (L:=[0,1,2,3,4,10,11,12,13,14,15,16,17,18,19,20,25,32,39,56,75,80,97,125]) (f:=Try.f115) (m:=1) (id:=0) (l:=(lp115 m0 n m a0 b0 l0 p0)) (LI:=fun i=>[]) Y hF (by kernel_rfl) (fun _=>.nil) (by
  rintro ⟨a,b,lim,wb,wp,p⟩ hp
  exact Hold.of (q115 m0 n m a0 b0 l0 p0 a b lim wb wp p) (bq115 m0 n m a0 b0 l0 p0 a b lim wb wp p ((peq115 m0 n m a0 b0 l0 p0 a b lim wb wp p).mp hp)))
def e115f (M0:Nat):EntB
 | [.vec 0 2 0 n,.int .i64 a,.int .i64 b,.int .i64 lim,.fn 102 [] []],[.row 2 m g_1]=>some ([Row 2 m g_1,m=n,n≤200,0≤a,a≤b,b≤n,0≤lim,lim≤1000,(b-a).toNat<M0],.tup [],[.row 2 m (fun k=>[SI ((M.pdC (fun z:Int × Int=>z.1) M.oth a.toNat b.toNat lim true true (pr2 g_1)) k).1,SI ((M.pdC (fun z:Int × Int=>z.1) M.oth a.toNat b.toNat lim true true (pr2 g_1)) k).2])])
 | _,_=>none
def Rr115f (n m:Nat) (a b lim:Int) (p:Nat→Int × Int) (m0:Nat):Prop:=(fun (z1:Nat)=>(fun (z0:Prop)=>(Int.toNat a≤z1∧z1≤n∧m=n∧n≤(200:Nat)∧(0:Int)≤lim∧lim≤(1000:Int)∧z1-Int.toNat a<m0+(1:Nat))∧((0:Nat)=(0:Nat)∧n=n∧a=(↑(Int.toNat a):Int)∧b=(↑z1:Int)∧lim=lim∧true=true∧true=true∧m≤m∧(∀ (k:Nat),k<m→(p k).1=(p k).1∧(p k).2=(p k).2)∧True)∧(true=false→z0)∧(true=true→z0)) ((m≤m∧∀ (k:Nat),k<m→(M.pdC (fun z=>z.1) M.oth (Int.toNat a) z1 lim true true p k).1=(M.pdC (fun z=>z.1) M.oth (Int.toNat a) z1 lim true true p k).1∧(M.pdC (fun z=>z.1) M.oth (Int.toNat a) z1 lim true true p k).2=(M.pdC (fun z=>z.1) M.oth (Int.toNat a) z1 lim true true p k).2)∧True)) (Int.toNat b)
theorem r115f (n m:Nat) (a b lim:Int) (p:Nat→Int × Int) (m0:Nat):VB true [] [] Try.f115 [0,1,2,3,4,10,11,12,13,14,15,16,17,18,19,20,25,32,39,56,75,80,97,125] [(0,loopT false Try.f115.ntmps 1 (lp115 m0 n m a.toNat b.toNat lim p) (fun _ _ _=>(a.toNat,b.toNat,lim,true,true,p)))] [.vec 0 2 0 n,SI a,SI b,SI lim,.fn 102 [] []] [.row 2 m (fun k=>[SI (p k).1,SI (p k).2])] (.tup []) [.row 2 m (fun k=>[SI ((M.pdC (fun z:Int × Int=>z.1) M.oth a.toNat b.toNat lim true true p) k).1,SI ((M.pdC (fun z:Int × Int=>z.1) M.oth a.toNat b.toNat lim true true p) k).2])]=Rr115f n m a b lim p m0:=by kernel_rfl
theorem br115f (n m:Nat) (a b lim:Int) (p:Nat→Int × Int) (m0:Nat) (hp:(m=n)∧(n≤200)∧(0≤a)∧(a≤b)∧(b≤n)∧(0≤lim)∧(lim≤1000)∧((b-a).toNat<(m0+1))∧AllP []):Rr115f n m a b lim p m0:=by
 unfold Rr115f
 dsimp -iota -proj -eta -zeta only
 obtain ⟨rfl,hn,a1,b1,b2,l1,l2,h0,-⟩:=id hp
 obtain ⟨A,rfl⟩:=Int.eq_ofNat_of_zero_le a1
 obtain ⟨B,rfl⟩:=Int.eq_ofNat_of_zero_le (show 0≤b by omega)
 simp
 omega
theorem s115f {m0:Nat} (ih:SpecOK PP 115 (e115 m0)):SpecOK PP 115 (e115f (m0+1)):=by
 intro xs Hs ps res Hs1 h hp
 unfold e115f at h
 split at h
 ·rename_i n a b lim m g_1
  cases h
  simp only [AllP.cons] at hp
  obtain ⟨Hg_1,hp⟩:=hp
  exact Spec.blocks (enterBH (Hold.of (r115f n m a b lim (pr2 g_1) m0) (br115f n m a b lim (pr2 g_1) m0 hp)) (.nil) (.nil) (k:=115) (by kernel_rfl) (by kernel_rfl) rfl (fun Y=>.cons (by kernel_rfl) (t115 m0 n m a.toNat b.toNat lim (pr2 g_1) ih FOK.wide Y) (.nil))) (.row Hg_1 (fun _=>rfl) .nil)
 ·cases h
theorem s115:∀ M0:Nat,SpecOK PP 115 (e115 M0)
 | 0=>by
  intro xs Hs ps res Hs1 h hp
  unfold e115 at h
  split at h
  ·simp only [Option.some.injEq,Prod.mk.injEq] at h
   obtain ⟨rfl,rfl,rfl⟩:=h
   simp only [AllP.cons] at hp
   obtain ⟨-,-,-,-,-,-,-,-,h,-⟩:=hp
   omega
  ·cases h
 | m0+1=>s115f (s115 m0)
end Go.Proofs.Ytoncoofmijjgeaa.Sep
