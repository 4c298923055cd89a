/-
  Texts of one seat, joined. No condition. (This text proves no statement by itself.)
-/
import Derived.Test.YtoncoofmijjgeaaKN1
namespace Go.Proofs.Ytoncoofmijjgeaa.Sep
open Go
set_option linter.unusedVariables false
set_option linter.unusedSimpArgs false
def e87:List SV→Option (List Prop × SV)
 | [.agg [.int .i64 w,.int .i64 ht,.int .i64 s,.int .i64 v0,.int .i64 v1,.int .i64 d0,.int .i64 d1,.int .i64 r,.sl 1 ns g_1,.int .i64 f],.agg [.int .i64 pk,.int .i64 ps,.int .i64 pa,.int .i64 pb,.int .i64 pc,.int .i64 pd]]=>some ([Row 1 ns g_1,ns≤100000],SI (M.Pk.vE ns (M.Pk.mk pk ps pa pb pc pd)))
 | _=>none
theorem s87:PureOK PP 87 e87:=by
 intro xs ps res h hp
 unfold e87 at h
 split at h
 ·rename_i w ht s v0 v1 d0 d1 r ns g f pk ps' pa pb pc pd
  cases h
  simp only [AllP.cons] at hp
  obtain ⟨h1,h2,-⟩:=hp
  by_cases c1:pk=1
  ·exact s87a _ _ _ rfl (AllP.cons.2 ⟨h1,AllP.cons.2 ⟨c1,AllP.cons.2 ⟨h2,AllP.nil⟩⟩⟩)
  ·by_cases c2:pk=2
   ·exact s87b _ _ _ rfl (AllP.cons.2 ⟨h1,AllP.cons.2 ⟨c2,AllP.cons.2 ⟨h2,AllP.nil⟩⟩⟩)
   ·by_cases c3:pk=3
    ·exact s87c _ _ _ rfl (AllP.cons.2 ⟨h1,AllP.cons.2 ⟨c3,AllP.cons.2 ⟨h2,AllP.nil⟩⟩⟩)
    ·exact s87d _ _ _ rfl (AllP.cons.2 ⟨h1,AllP.cons.2 ⟨by omega,AllP.cons.2 ⟨h2,AllP.nil⟩⟩⟩)
 ·cases h
def lp59 (w ht s v0 v1 d0 d1 r:Int) (ns:Nat) (x:Nat→Int) (f:Int) (m:Nat) (pk ps pa pb pc pd:Nat→Int):LoopS where
 ι:=Nat
 β:=Int
 pre i:=i≤m∧m≤100000∧ns≤64
 μ i:=m-i
 next i _ _ _:=i+1
 out i:=M.fe (fun j=>M.Pk.vE ns ((fun i=>M.Pk.mk (pk i) (ps i) (pa i) (pb i) (pc i) (pd i)) j)) (m-i) i
 early q:=decide (q≠0)
 SA i:=[(3,.ptr 0 0),(41,.sl 6 m (fun j=>[SI (pk j),SI (ps j),SI (pa j),SI (pb j),SI (pc j),SI (pd j)])),(42,SI m),(43,SI i)]
 SH _:=[(0,.cells [SI w,SI ht,SI s,SI v0,SI v1,SI d0,SI d1,SI r,.sl 1 ns (fun k=>[SI (x k)]),SI f])]
 n0:=1
 NA _:=[(3,.ptr 0 0)]
 NH _:=[(0,.cells [SI w,SI ht,SI s,SI v0,SI v1,SI d0,SI d1,SI r,.sl 1 ns (fun k=>[SI (x k)]),SI f])]
 n1:=1
 RA q:=[(6,SI q)]
 RH _:=[]
def Rq59 (w ht s v0 v1 d0 d1 r:Int) (ns:Nat) (x:Nat→Int) (f:Int) (m:Nat) (pk ps pa pb pc pd:Nat→Int) (i:Nat):Prop:=(fun (z5 z6:Int) (z4:Nat) (z1:Nat→Nat→Int) (z2:Prop)=>(fun (z7:Bool) (z0:Nat)=>(fun (z3:Int)=>(decide (z5<z6)=true→(0:Int)≤z5∧z5<z6∧z0<m∧(∀ (k:Nat),k<ns→x k=x k)∧ns≤(100000:Nat)∧((!decide (z3=(0:Int)))=true→z7=true∧z3=z1 (m-i) i∧True)∧((!decide (z3=(0:Int)))=false→R64 (z5+(1:Int))∧(z4≤m∧m≤(100000:Nat)∧ns≤(64:Nat))∧m-z4<m-i∧z1 (m-z4) z4=z1 (m-i) i∧(m=m∧∀ (k:Nat),k<m→pk k=pk k∧ps k=ps k∧pa k=pa k∧pb k=pb k∧pc k=pc k∧pd k=pd k)∧z6=z6∧z5+(1:Int)=(↑z4:Int)∧z2))∧(decide (z5<z6)=false→z7=false∧z2)) (M.Pk.vE ns (M.Pk.mk (pk z0) (ps z0) (pa z0) (pb z0) (pc z0) (pd z0)))) (decide (z1 (m-i) i≠(0:Int))) (Int.toNat z5)) (↑i:Int) (↑m:Int) (i+(1:Nat)) (M.fe (fun j=>M.Pk.vE ns (M.Pk.mk (pk j) (ps j) (pa j) (pb j) (pc j) (pd j)))) (w=w∧ht=ht∧s=s∧v0=v0∧v1=v1∧d0=d0∧d1=d1∧r=r∧(ns=ns∧∀ (k:Nat),k<ns→x k=x k)∧f=f∧True)
theorem q59 (w ht s v0 v1 d0 d1 r:Int) (ns:Nat) (x:Nat→Int) (f:Int) (m:Nat) (pk ps pa pb pc pd:Nat→Int) (i:Nat):VL true [] [(87,pureE e87)] YS.none Try.f59 0 [0,1,2,3,6,7,8,9,11,12,17,22,29,36,40,41,42,43,44,51,57] [] 0 (lp59 w ht s v0 v1 d0 d1 r ns x f m pk ps pa pb pc pd) (i)=Rq59 w ht s v0 v1 d0 d1 r ns x f m pk ps pa pb pc pd i:=by kernel_rfl
theorem peq59 (w ht s v0 v1 d0 d1 r:Int) (ns:Nat) (x:Nat→Int) (f:Int) (m:Nat) (pk ps pa pb pc pd:Nat→Int) (i:Nat):(lp59 w ht s v0 v1 d0 d1 r ns x f m pk ps pa pb pc pd).pre (i)=(i≤m∧m≤(100000:Nat)∧ns≤(64:Nat)):=by kernel_rfl
theorem bq59 (w ht s v0 v1 d0 d1 r:Int) (ns:Nat) (x:Nat→Int) (f:Int) (m:Nat) (pk ps pa pb pc pd:Nat→Int) (i:Nat) (hp:i≤m∧m≤(100000:Nat)∧ns≤(64:Nat)):Rq59 w ht s v0 v1 d0 d1 r ns x f m pk ps pa pb pc pd i:=by
 unfold Rq59
 dsimp -iota -proj -eta -zeta only
 obtain ⟨h1,h2,h3⟩:=id hp
 have r1:R64 ((i:Int)+1):=by unfold R64; omega
 have f1:=@M.fe_step (fun j=>M.Pk.vE ns ((fun i=>M.Pk.mk (pk i) (ps i) (pa i) (pb i) (pc i) (pd i)) j)) m i
 have f2:=@M.fe_stop (fun j=>M.Pk.vE ns ((fun i=>M.Pk.mk (pk i) (ps i) (pa i) (pb i) (pc i) (pd i)) j)) m i
 have f3:=@M.fe_end (fun j=>M.Pk.vE ns ((fun i=>M.Pk.mk (pk i) (ps i) (pa i) (pb i) (pc i) (pd i)) j)) m i
 simp only [Int.toNat_natCast,r1]
 generalize M.fe (fun j=>M.Pk.vE ns ((fun i=>M.Pk.mk (pk i) (ps i) (pa i) (pb i) (pc i) (pd i)) j)) (m-i) i=F at *
 generalize M.fe (fun j=>M.Pk.vE ns ((fun i=>M.Pk.mk (pk i) (ps i) (pa i) (pb i) (pc i) (pd i)) j)) (m-(i+1)) (i+1)=F' at *
 by_cases hl:i<m
 ·have f1:=f1 hl
  have f2:=f2 hl
  clear f3
  by_cases c1:M.Pk.vE ns ((fun i=>M.Pk.mk (pk i) (ps i) (pa i) (pb i) (pc i) (pd i)) i)=0
  ·simp only [c1,true_implies,if_true] at f1
   subst f1
   simp [hl,h3,c1,(show ns≤100000 by omega)]
   try omega
  ·simp only [c1,if_false,ne_eq,not_false_iff,true_implies,not_true] at f2
   simp [hl,h3,c1,f2,(show ns≤100000 by omega)]
   try omega
 ·have f3:=f3 (by omega)
  subst f3
  simp [hl,(show ns≤100000 by omega)]
theorem t59 (w ht s v0 v1 d0 d1 r:Int) (ns:Nat) (x:Nat→Int) (f:Int) (m:Nat) (pk ps pa pb pc pd:Nat→Int) {F:Fence} (hF:FOK F) (Y:YEnv PP YS.none):∀ Q A H nx,loopT false Try.f59.ntmps 0 (lp59 w ht s v0 v1 d0 d1 r ns x f m pk ps pa pb pc pd) (fun _ _ _=>(0:Nat)) Q A H nx→WPS Y F Try.f59.ntmps 0 (.block 0 (blkAt 0 Try.f59)) Q A H nx :=
 loopW (E:=[]) (.nil) (O:=[(87,pureE e87)]) (.cons (pureE_ok s87) (.nil)) (ck:=true) (L:=[0,1,2,3,6,7,8,9,11,12,17,22,29,36,40,41,42,43,44,51,57]) (f:=Try.f59) (m:=0) (id:=0) (l:=(lp59 w ht s v0 v1 d0 d1 r ns x f m pk ps pa pb pc pd)) (LI:=fun i=>[]) Y hF (by kernel_rfl) (fun _=>.nil) (by
  rintro i hp
  exact Hold.of (q59 w ht s v0 v1 d0 d1 r ns x f m pk ps pa pb pc pd i) (bq59 w ht s v0 v1 d0 d1 r ns x f m pk ps pa pb pc pd i ((peq59 w ht s v0 v1 d0 d1 r ns x f m pk ps pa pb pc pd i).mp hp)))
def e59:List SV→Option (List Prop × SV)
 | [.agg [.int .i64 w,.int .i64 ht,.int .i64 s,.int .i64 v0,.int .i64 v1,.int .i64 d0,.int .i64 d1,.int .i64 r,.sl 1 ns g_1,.int .i64 f],.sl 5 n g_2,.sl 6 m g_3]=>some ([Row 1 ns g_1,Row 5 n g_2,Row 6 m g_3,ns≤100000,n≤100000,m≤100000],SI (M.Gd.ckE (M.Gd.mk w ht s v0 v1 d0 d1 r) ns (cI g_1 0) n (fun i=>M.Sc.mk ((cI g_2 0) i) ((cI g_2 1) i) ((cI g_2 2) i) ((cI g_2 3) i) ((cI g_2 4) i)) m (fun i=>M.Pk.mk ((cI g_3 0) i) ((cI g_3 1) i) ((cI g_3 2) i) ((cI g_3 3) i) ((cI g_3 4) i) ((cI g_3 5) i)) f))
 | _=>none
def Rr59 (w ht s v0 v1 d0 d1 r:Int) (ns:Nat) (x:Nat→Int) (f:Int) (n:Nat) (sk sc sq sa sb:Nat→Int) (m:Nat) (pk ps pa pb pc pd:Nat→Int):Prop:=(fun (z7 z9:Bool) (z2 z4:Int) (z1:M.Gd) (z6:Prop)=>(fun (z5 z8:Bool) (z0 z3:Int)=>((!decide (M.Gd.er z1=z4))=true→M.Gd.er z1=z0)∧((!decide (M.Gd.er z1=z4))=false→(z7=true→(9:Int)=z0)∧(z7=false→z6∧ns≤(100000:Nat)∧(z8=true→M.Gd.kn z1 ns x=z0)∧(z8=false→(∀ (k:Nat),k<n→sk k=sk k∧sc k=sc k∧sq k=sq k∧sa k=sa k∧sb k=sb k)∧n≤(100000:Nat)∧((!decide (z3=z4))=true→z3=z0)∧((!decide (z3=z4))=false→(z9=true→(9:Int)=z0)∧(z9=false→((0:Nat)≤m∧m≤(100000:Nat)∧ns≤(64:Nat))∧((m=m∧∀ (k:Nat),k<m→pk k=pk k∧ps k=ps k∧pa k=pa k∧pb k=pb k∧pc k=pc k∧pd k=pd k)∧(↑m:Int)=(↑m:Int)∧z4=(↑(0:Nat):Int)∧w=w∧ht=ht∧s=s∧v0=v0∧v1=v1∧d0=d0∧d1=d1∧r=r∧(ns=ns∧z6)∧f=f∧True)∧(decide (z2≠z4)=false→(z5=true→(3:Int)=z0)∧(z5=false→z4=z0))∧(decide (z2≠z4)=true→z2=z0))))))) (!decide (z4≤f∧f≤(8:Int))) (!decide (M.Gd.kn z1 ns x=z4)) (M.Gd.ckE z1 ns x n (fun i=>M.Sc.mk (sk i) (sc i) (sq i) (sa i) (sb i)) m (fun i=>M.Pk.mk (pk i) (ps i) (pa i) (pb i) (pc i) (pd i)) f) (M.Gd.csE z1 n fun i=>M.Sc.mk (sk i) (sc i) (sq i) (sa i) (sb i))) (decide ((64:Int)<(↑ns:Int))) (decide ((64:Int)<(↑m:Int))) (M.fe (fun j=>M.Pk.vE ns (M.Pk.mk (pk j) (ps j) (pa j) (pb j) (pc j) (pd j))) (m-(0:Nat)) (0:Nat)) (0:Int) (M.Gd.mk w ht s v0 v1 d0 d1 r) (∀ (k:Nat),k<ns→x k=x k)
theorem r59 (w ht s v0 v1 d0 d1 r:Int) (ns:Nat) (x:Nat→Int) (f:Int) (n:Nat) (sk sc sq sa sb:Nat→Int) (m:Nat) (pk ps pa pb pc pd:Nat→Int):V true [] [(28,pureE e28),(63,pureE e63),(40,pureE e40),(67,pureE e67)] Try.f59 [0,1,2,3,6,7,8,9,11,12,17,22,29,36,40,41,42,43,44,51,57] [(0,loopT false Try.f59.ntmps 0 (lp59 w ht s v0 v1 d0 d1 r ns x f m pk ps pa pb pc pd) (fun _ _ _=>(0:Nat)))] [.agg [SI w,SI ht,SI s,SI v0,SI v1,SI d0,SI d1,SI r,.sl 1 ns (fun k=>[SI (x k)]),SI f],.sl 5 n (fun k=>[SI (sk k),SI (sc k),SI (sq k),SI (sa k),SI (sb k)]),.sl 6 m (fun k=>[SI (pk k),SI (ps k),SI (pa k),SI (pb k),SI (pc k),SI (pd k)])] (SI (M.Gd.ckE (M.Gd.mk w ht s v0 v1 d0 d1 r) ns x n (fun i=>M.Sc.mk (sk i) (sc i) (sq i) (sa i) (sb i)) m (fun i=>M.Pk.mk (pk i) (ps i) (pa i) (pb i) (pc i) (pd i)) f))=Rr59 w ht s v0 v1 d0 d1 r ns x f n sk sc sq sa sb m pk ps pa pb pc pd:=by kernel_rfl
theorem br59 (w ht s v0 v1 d0 d1 r:Int) (ns:Nat) (x:Nat→Int) (f:Int) (n:Nat) (sk sc sq sa sb:Nat→Int) (m:Nat) (pk ps pa pb pc pd:Nat→Int) (hp:(ns≤100000)∧(n≤100000)∧(m≤100000)∧AllP []):Rr59 w ht s v0 v1 d0 d1 r ns x f n sk sc sq sa sb m pk ps pa pb pc pd:=by
 unfold Rr59
 dsimp -iota -proj -eta -zeta only
 obtain ⟨h1,h2,h3,-⟩:=id hp
 have r1:R64 (ns:Int):=by unfold R64; omega
 have r2:R64 (m:Int):=by unfold R64; omega
 simp only [M.Gd.ckE,M.Gd.er,M.Gd.kn,M.Gd.csE,Nat.sub_zero]
 obtain ⟨F,hF⟩ : ∃ F,F=M.fe (fun j=>M.Pk.vE ns ((fun i=>M.Pk.mk (pk i) (ps i) (pa i) (pb i) (pc i) (pd i)) j)) m 0:=⟨_,rfl⟩
 obtain ⟨G,hG⟩ : ∃ G,G=M.Gd.srL (M.Gd.mk w ht s v0 v1 d0 d1 r) n (fun i=>M.Sc.mk (sk i) (sc i) (sq i) (sa i) (sb i)):=⟨_,rfl⟩
 simp only [← hF,← hG]
 clear hF hG
 by_cases c1:M.Gd.ok (M.Gd.mk w ht s v0 v1 d0 d1 r)
 ·by_cases c2:64<ns
  ·have c2':(64:Int)<ns:=by omega
   simp [c1,c2,c2',r1]
  ·have c2':¬ (64:Int)<ns:=by omega
   by_cases c3:M.Gd.all (M.Gd.mk w ht s v0 v1 d0 d1 r) ns x
   ·by_cases c4:G=0
    ·by_cases c5:64<m
     ·have c5':(64:Int)<m:=by omega
      simp [c1,c2,c2',c3,c4,c5,c5',h1,h2,h3,r1,r2]
     ·have c5':¬ (64:Int)<m:=by omega
      by_cases c6:F=0
      ·by_cases c7:0≤f∧f≤8 <;> simp [c1,c2,c2',c3,c4,c5,c5',c6,c7,h1,h2,h3,r1,r2]
       all_goals omega
      ·simp [c1,c2,c2',c3,c4,c5,c5',c6,h1,h2,h3,r1,r2]
       try omega
    ·simp [c1,c2,c2',c3,c4,h1,h2,h3,r1,r2]
   ·simp [c1,c2,c2',c3,h1,h2,h3,r1,r2]
 ·simp [c1]
theorem s59:PureOK PP 59 e59:=by
 intro xs ps res h hp
 unfold e59 at h
 split at h
 ·rename_i w ht s v0 v1 d0 d1 r ns g_1 f n g_2 m g_3
  cases h
  simp only [AllP.cons] at hp
  obtain ⟨Hg_1,Hg_2,Hg_3,hp⟩:=hp
  exact Spec.args (enterH (Hold.of (r59 w ht s v0 v1 d0 d1 r ns (cI g_1 0) f n (cI g_2 0) (cI g_2 1) (cI g_2 2) (cI g_2 3) (cI g_2 4) m (cI g_3 0) (cI g_3 1) (cI g_3 2) (cI g_3 3) (cI g_3 4) (cI g_3 5)) (br59 w ht s v0 v1 d0 d1 r ns (cI g_1 0) f n (cI g_2 0) (cI g_2 1) (cI g_2 2) (cI g_2 3) (cI g_2 4) m (cI g_3 0) (cI g_3 1) (cI g_3 2) (cI g_3 3) (cI g_3 4) (cI g_3 5) hp)) (.nil) (.cons (pureE_ok s28) (.cons (pureE_ok s63) (.cons (pureE_ok s40) (.cons (pureE_ok s67) (.nil))))) (k:=59) (by kernel_rfl) (by kernel_rfl) (fun Y=>.cons (by kernel_rfl) (t59 w ht s v0 v1 d0 d1 r ns (cI g_1 0) f m (cI g_3 0) (cI g_3 1) (cI g_3 2) (cI g_3 3) (cI g_3 4) (cI g_3 5) FOK.wide Y) (.nil))) (.cons (.agg (.cons (.refl _) (.cons (.refl _) (.cons (.refl _) (.cons (.refl _) (.cons (.refl _) (.cons (.refl _) (.cons (.refl _) (.cons (.refl _) (.cons (.row Hg_1 fun _=>rfl) (.cons (.refl _) .nil))))))))))) (.cons (.row Hg_2 fun _=>rfl) (.cons (.row Hg_3 fun _=>rfl) .nil)))
 ·cases h
end Go.Proofs.Ytoncoofmijjgeaa.Sep
namespace Go.Proofs.Ytoncoofmijjgeaa.Sep
open Go
set_option linter.unusedVariables false
set_option linter.unusedSimpArgs false
def e110:List SV→Option (List Prop × SV)
 | [.agg [.int .i64 pk,.int .i64 ps,.int .i64 pa,.int .i64 pb,.int .i64 pc,.int .i64 pd],.agg [.int .i64 t0,.int .i64 t1],.agg [.int .i64 y0,.int .i64 y1]]=>some ([R64 (pa-t1),R64 (pb-t0)],.tup [.agg [SI (pa-t1),SI (pb-t0)],.bool true])
 | _=>none
def Rr110 (pk ps pa pb pc pd:Int) (t0 t1 y0 y1:Int):Prop:=R64 (pa-t1)∧R64 (pb-t0)∧(pa-t1=pa-t1∧pb-t0=pb-t0)∧true=true
theorem r110 (pk ps pa pb pc pd:Int) (t0 t1 y0 y1:Int):V true [] [] Try.f110 [0,1,2,3,4,6,7] [] [.agg [SI pk,SI ps,SI pa,SI pb,SI pc,SI pd],.agg [SI t0,SI t1],.agg [SI y0,SI y1]] (.tup [.agg [SI (pa-t1),SI (pb-t0)],.bool true])=Rr110 pk ps pa pb pc pd t0 t1 y0 y1:=by kernel_rfl
theorem br110 (pk ps pa pb pc pd:Int) (t0 t1 y0 y1:Int) (hp:(R64 (pa-t1))∧(R64 (pb-t0))∧AllP []):Rr110 pk ps pa pb pc pd t0 t1 y0 y1:=by
 unfold Rr110
 obtain ⟨h1,h2,-⟩:=id hp
 simp [h1,h2]
theorem s110:PureOK PP 110 e110:=by
 intro xs ps res h hp
 unfold e110 at h
 split at h
 ·rename_i pk ps pa pb pc pd t0 t1 y0 y1
  cases h
  simp only [AllP.cons] at hp
  exact enterH (Hold.of (r110 pk ps pa pb pc pd t0 t1 y0 y1) (br110 pk ps pa pb pc pd t0 t1 y0 y1 hp)) (.nil) (.nil) (k:=110) (by kernel_rfl) (by kernel_rfl) (fun _=>.nil)
 ·cases h
def e113:List SV→Option (List Prop × SV)
 | []=>some ([],.agg [SI (-1099511627776),SI 1099511627776])
 | _=>none
def Rr113  : Prop:=(-1099511627776:Int)=(-1099511627776:Int)∧(1099511627776:Int)=(1099511627776:Int)
theorem r113  : V true [] [] Try.f113 [0] [] [] (.agg [SI (-1099511627776),SI 1099511627776])=Rr113  := by kernel_rfl
theorem br113   : Rr113  := by
 unfold Rr113
 simp
theorem s113:PureOK PP 113 e113:=by
 intro xs ps res h hp
 unfold e113 at h
 split at h
 ·skip
  cases h
  clear hp
  exact enterH (Hold.of (r113 ) (br113  )) (.nil) (.nil) (k:=113) (by kernel_rfl) (by kernel_rfl) (fun _=>.nil)
 ·cases h
def e112:List SV→Option (List Prop × SV)
 | [.agg [.int .i64 pk,.int .i64 ps,.int .i64 pa,.int .i64 pb,.int .i64 pc,.int .i64 pd],.agg [.int .i64 t0,.int .i64 t1],.agg [.int .i64 y0,.int .i64 y1]]=>some ([],.tup [.agg [SI (-1099511627776),SI 1099511627776],.bool (decide (y0≤pd∧pc≤y1))])
 | _=>none
def Rr112 (pk ps pa pb pc pd:Int) (t0 t1 y0 y1:Int):Prop:=(fun (z0:Prop)=>z0∧z0∧z0∧z0∧z0∧z0∧((- 1099511627776:Int)=(- 1099511627776:Int)∧(1099511627776:Int)=(1099511627776:Int))∧(bif decide (y0≤pd) then decide (pc≤y1) else false)=decide (y0≤pd∧pc≤y1)) (decide (y0≤pd)=true→decide (y0≤pd)=true)
theorem r112 (pk ps pa pb pc pd:Int) (t0 t1 y0 y1:Int):V true [] [(113,pureE e113)] Try.f112 [0,1,2,3,5,6,7] [] [.agg [SI pk,SI ps,SI pa,SI pb,SI pc,SI pd],.agg [SI t0,SI t1],.agg [SI y0,SI y1]] (.tup [.agg [SI (-1099511627776),SI 1099511627776],.bool (decide (y0≤pd∧pc≤y1))])=Rr112 pk ps pa pb pc pd t0 t1 y0 y1:=by kernel_rfl
theorem br112 (pk ps pa pb pc pd:Int) (t0 t1 y0 y1:Int)  : Rr112 pk ps pa pb pc pd t0 t1 y0 y1:=by
 unfold Rr112
 dsimp -iota -proj -eta -zeta only
 by_cases c:y0≤pd <;> simp [c]
theorem s112:PureOK PP 112 e112:=by
 intro xs ps res h hp
 unfold e112 at h
 split at h
 ·rename_i pk ps pa pb pc pd t0 t1 y0 y1
  cases h
  clear hp
  exact enterH (Hold.of (r112 pk ps pa pb pc pd t0 t1 y0 y1) (br112 pk ps pa pb pc pd t0 t1 y0 y1 )) (.nil) (.cons (pureE_ok s113) (.nil)) (k:=112) (by kernel_rfl) (by kernel_rfl) (fun _=>.nil)
 ·cases h
def e114:List SV→Option (List Prop × SV)
 | [.agg [.int .i64 pk,.int .i64 ps,.int .i64 pa,.int .i64 pb,.int .i64 pc,.int .i64 pd],.agg [.int .i64 t0,.int .i64 t1],.agg [.int .i64 y0,.int .i64 y1]]=>some ([R64 (pa-t1),R64 (pa-t1+1)],.tup [.agg [SI (pa-t1+1),SI 1099511627776],.bool true])
 | _=>none
def Rr114 (pk ps pa pb pc pd:Int) (t0 t1 y0 y1:Int):Prop:=R64 (pa-t1)∧R64 (pa-t1+(1:Int))∧(pa-t1+(1:Int)=pa-t1+(1:Int)∧(1099511627776:Int)=(1099511627776:Int))∧true=true
theorem r114 (pk ps pa pb pc pd:Int) (t0 t1 y0 y1:Int):V true [] [] Try.f114 [0,1,2,3,4,6,7] [] [.agg [SI pk,SI ps,SI pa,SI pb,SI pc,SI pd],.agg [SI t0,SI t1],.agg [SI y0,SI y1]] (.tup [.agg [SI (pa-t1+1),SI 1099511627776],.bool true])=Rr114 pk ps pa pb pc pd t0 t1 y0 y1:=by kernel_rfl
theorem br114 (pk ps pa pb pc pd:Int) (t0 t1 y0 y1:Int) (hp:(R64 (pa-t1))∧(R64 (pa-t1+1))∧AllP []):Rr114 pk ps pa pb pc pd t0 t1 y0 y1:=by
 unfold Rr114
 obtain ⟨h1,h2,-⟩:=id hp
 simp [h1,h2]
theorem s114:PureOK PP 114 e114:=by
 intro xs ps res h hp
 unfold e114 at h
 split at h
 ·rename_i pk ps pa pb pc pd t0 t1 y0 y1
  cases h
  simp only [AllP.cons] at hp
  exact enterH (Hold.of (r114 pk ps pa pb pc pd t0 t1 y0 y1) (br114 pk ps pa pb pc pd t0 t1 y0 y1 hp)) (.nil) (.nil) (k:=114) (by kernel_rfl) (by kernel_rfl) (fun _=>.nil)
 ·cases h
def e79a:List SV→Option (List Prop × SV)
 | [.agg [.int .i64 w,.int .i64 ht,.int .i64 s,.int .i64 v0,.int .i64 v1,.int .i64 d0,.int .i64 d1,.int .i64 r,.sl 1 ns g_1,.int .i64 f],.agg [.int .i64 zk,.int .i64 zc,.int .i64 zq,.int .i64 za,.int .i64 zb],.agg [.int .i64 pk,.int .i64 ps,.int .i64 pa,.int .i64 pb,.int .i64 pc,.int .i64 pd]]=>some ([Row 1 ns g_1,pk=1,M.Gd.ok (M.Gd.mk w ht s v0 v1 d0 d1 r),M.Gd.all (M.Gd.mk w ht s v0 v1 d0 d1 r) ns (cI g_1 0),ns≤64,M.Gd.Sok (M.Gd.mk w ht s v0 v1 d0 d1 r) (M.Sc.mk zk zc zq za zb),M.Pk.Vd ns (M.Pk.mk pk ps pa pb pc pd)],.tup [.agg [SI (M.Gd.alL (M.Gd.mk w ht s v0 v1 d0 d1 r) (cI g_1 0) (M.Sc.mk zk zc zq za zb) (M.Pk.mk pk ps pa pb pc pd)),SI (M.Gd.alH (M.Gd.mk w ht s v0 v1 d0 d1 r) (cI g_1 0) (M.Sc.mk zk zc zq za zb) (M.Pk.mk pk ps pa pb pc pd))],.bool (M.Gd.alB (M.Gd.mk w ht s v0 v1 d0 d1 r) (cI g_1 0) (M.Sc.mk zk zc zq za zb) (M.Pk.mk pk ps pa pb pc pd))])
 | _=>none
def Rr79a (w ht s v0 v1 d0 d1 r:Int) (ns:Nat) (x:Nat→Int) (f:Int) (zk zc zq za zb:Int) (pk ps pa pb pc pd:Int):Prop:=(fun (z1:Int) (z0:M.Gd) (z2:M.Pk) (z3:M.Sc)=>(0:Int)≤ps∧ps<(↑ns:Int)∧Int.toNat ps<ns∧pk=(1:Int)∧M.Gd.ok z0∧M.Gd.cell z0 zc∧M.Gd.cell z0 z1∧M.Gd.ok z0∧M.Gd.cell z0 zc∧M.Gd.cell z0 z1∧(0:Int)≤zq∧zq≤(10:Int)∧R64 (pa-M.Gd.T1 z0 zc z1)∧R64 (pb-M.Gd.T0 z0 zc z1)∧(pa-M.Gd.T1 z0 zc z1=M.Gd.alL z0 x z3 z2∧pb-M.Gd.T0 z0 zc z1=M.Gd.alH z0 x z3 z2)∧true=M.Gd.alB z0 x z3 z2) (x (Int.toNat ps)) (M.Gd.mk w ht s v0 v1 d0 d1 r) (M.Pk.mk pk ps pa pb pc pd) (M.Sc.mk zk zc zq za zb)
theorem r79a (w ht s v0 v1 d0 d1 r:Int) (ns:Nat) (x:Nat→Int) (f:Int) (zk zc zq za zb:Int) (pk ps pa pb pc pd:Int):V true [] [(99,pureE e99a),(110,pureE e110),(64,pureE e64),(68,pureE e68)] Try.f79 [0,1,2,3,4,5,6,7,8,9] [] [.agg [SI w,SI ht,SI s,SI v0,SI v1,SI d0,SI d1,SI r,.sl 1 ns (fun k=>[SI (x k)]),SI f],.agg [SI zk,SI zc,SI zq,SI za,SI zb],.agg [SI pk,SI ps,SI pa,SI pb,SI pc,SI pd]] (.tup [.agg [SI (M.Gd.alL (M.Gd.mk w ht s v0 v1 d0 d1 r) x (M.Sc.mk zk zc zq za zb) (M.Pk.mk pk ps pa pb pc pd)),SI (M.Gd.alH (M.Gd.mk w ht s v0 v1 d0 d1 r) x (M.Sc.mk zk zc zq za zb) (M.Pk.mk pk ps pa pb pc pd))],.bool (M.Gd.alB (M.Gd.mk w ht s v0 v1 d0 d1 r) x (M.Sc.mk zk zc zq za zb) (M.Pk.mk pk ps pa pb pc pd))])=Rr79a w ht s v0 v1 d0 d1 r ns x f zk zc zq za zb pk ps pa pb pc pd:=by kernel_rfl
theorem br79a (w ht s v0 v1 d0 d1 r:Int) (ns:Nat) (x:Nat→Int) (f:Int) (zk zc zq za zb:Int) (pk ps pa pb pc pd:Int) (hp:(pk=1)∧(M.Gd.ok (M.Gd.mk w ht s v0 v1 d0 d1 r))∧(M.Gd.all (M.Gd.mk w ht s v0 v1 d0 d1 r) ns x)∧(ns≤64)∧(M.Gd.Sok (M.Gd.mk w ht s v0 v1 d0 d1 r) (M.Sc.mk zk zc zq za zb))∧(M.Pk.Vd ns (M.Pk.mk pk ps pa pb pc pd))∧AllP []):Rr79a w ht s v0 v1 d0 d1 r ns x f zk zc zq za zb pk ps pa pb pc pd:=by
 unfold Rr79a
 dsimp -iota -proj -eta -zeta only
 obtain ⟨hpk,hk,ha,hn,⟨z1,z2,z3,z4⟩,⟨u1,u2,u3,u4⟩,-⟩:=id hp
 simp only at z1 z2 z3 z4 u1 u2 u3 u4
 have hc:=ha ps.toNat (by omega)
 have hT:=M.Gd.T_bd hk z2 hc
 have u4:=u4 (by omega)
 simp only [M.Gd.alL,M.Gd.alH,M.Gd.alB]
 have q1:ps<(ns:Int):=by omega
 have q2:ps.toNat<ns:=by omega
 have q3:0≤zq∧zq≤10:=by omega
 simp [hpk,hk,hc,z2,u2,q1,q2,q3]
 unfold R64
 omega
theorem s79a:PureOK PP 79 e79a:=by
 intro xs ps res h hp
 unfold e79a at h
 split at h
 ·rename_i w ht s v0 v1 d0 d1 r ns g_1 f zk zc zq za zb pk ps pa pb pc pd
  cases h
  simp only [AllP.cons] at hp
  obtain ⟨Hg_1,hp⟩:=hp
  exact Spec.args (enterH (Hold.of (r79a w ht s v0 v1 d0 d1 r ns (cI g_1 0) f zk zc zq za zb pk ps pa pb pc pd) (br79a w ht s v0 v1 d0 d1 r ns (cI g_1 0) f zk zc zq za zb pk ps pa pb pc pd hp)) (.nil) (.cons (pureE_ok s99a) (.cons (pureE_ok s110) (.cons (pureE_ok s64) (.cons (pureE_ok s68) (.nil))))) (k:=79) (by kernel_rfl) (by kernel_rfl) (fun _=>.nil)) (.cons (.agg (.cons (.refl _) (.cons (.refl _) (.cons (.refl _) (.cons (.refl _) (.cons (.refl _) (.cons (.refl _) (.cons (.refl _) (.cons (.refl _) (.cons (.row Hg_1 fun _=>rfl) (.cons (.refl _) .nil))))))))))) (.cons (.refl _) (.cons (.refl _) .nil)))
 ·cases h
def e79b:List SV→Option (List Prop × SV)
 | [.agg [.int .i64 w,.int .i64 ht,.int .i64 s,.int .i64 v0,.int .i64 v1,.int .i64 d0,.int .i64 d1,.int .i64 r,.sl 1 ns g_1,.int .i64 f],.agg [.int .i64 zk,.int .i64 zc,.int .i64 zq,.int .i64 za,.int .i64 zb],.agg [.int .i64 pk,.int .i64 ps,.int .i64 pa,.int .i64 pb,.int .i64 pc,.int .i64 pd]]=>some ([Row 1 ns g_1,pk=2,M.Gd.ok (M.Gd.mk w ht s v0 v1 d0 d1 r),M.Gd.all (M.Gd.mk w ht s v0 v1 d0 d1 r) ns (cI g_1 0),ns≤64,M.Gd.Sok (M.Gd.mk w ht s v0 v1 d0 d1 r) (M.Sc.mk zk zc zq za zb),M.Pk.Vd ns (M.Pk.mk pk ps pa pb pc pd)],.tup [.agg [SI (M.Gd.alL (M.Gd.mk w ht s v0 v1 d0 d1 r) (cI g_1 0) (M.Sc.mk zk zc zq za zb) (M.Pk.mk pk ps pa pb pc pd)),SI (M.Gd.alH (M.Gd.mk w ht s v0 v1 d0 d1 r) (cI g_1 0) (M.Sc.mk zk zc zq za zb) (M.Pk.mk pk ps pa pb pc pd))],.bool (M.Gd.alB (M.Gd.mk w ht s v0 v1 d0 d1 r) (cI g_1 0) (M.Sc.mk zk zc zq za zb) (M.Pk.mk pk ps pa pb pc pd))])
 | _=>none
def Rr79b (w ht s v0 v1 d0 d1 r:Int) (ns:Nat) (x:Nat→Int) (f:Int) (zk zc zq za zb:Int) (pk ps pa pb pc pd:Int):Prop:=(fun (z2:Int) (z0:M.Gd) (z1:M.Pk) (z3:M.Sc)=>(0:Int)≤ps∧ps<(↑ns:Int)∧Int.toNat ps<ns∧pk=(2:Int)∧M.Gd.ok z0∧M.Gd.cell z0 zc∧M.Gd.cell z0 z2∧M.Gd.ok z0∧M.Gd.cell z0 zc∧M.Gd.cell z0 z2∧(0:Int)≤zq∧zq≤(10:Int)∧((- 1099511627776:Int)=M.Gd.alL z0 x z3 z1∧(1099511627776:Int)=M.Gd.alH z0 x z3 z1)∧decide (M.Gd.S0 z0 zq zc z2≤pd∧pc≤M.Gd.S1 z0 zq zc z2)=M.Gd.alB z0 x z3 z1) (x (Int.toNat ps)) (M.Gd.mk w ht s v0 v1 d0 d1 r) (M.Pk.mk pk ps pa pb pc pd) (M.Sc.mk zk zc zq za zb)
theorem r79b (w ht s v0 v1 d0 d1 r:Int) (ns:Nat) (x:Nat→Int) (f:Int) (zk zc zq za zb:Int) (pk ps pa pb pc pd:Int):V true [] [(99,pureE e99b),(112,pureE e112),(64,pureE e64),(68,pureE e68)] Try.f79 [0,1,2,3,4,5,6,7,8,9] [] [.agg [SI w,SI ht,SI s,SI v0,SI v1,SI d0,SI d1,SI r,.sl 1 ns (fun k=>[SI (x k)]),SI f],.agg [SI zk,SI zc,SI zq,SI za,SI zb],.agg [SI pk,SI ps,SI pa,SI pb,SI pc,SI pd]] (.tup [.agg [SI (M.Gd.alL (M.Gd.mk w ht s v0 v1 d0 d1 r) x (M.Sc.mk zk zc zq za zb) (M.Pk.mk pk ps pa pb pc pd)),SI (M.Gd.alH (M.Gd.mk w ht s v0 v1 d0 d1 r) x (M.Sc.mk zk zc zq za zb) (M.Pk.mk pk ps pa pb pc pd))],.bool (M.Gd.alB (M.Gd.mk w ht s v0 v1 d0 d1 r) x (M.Sc.mk zk zc zq za zb) (M.Pk.mk pk ps pa pb pc pd))])=Rr79b w ht s v0 v1 d0 d1 r ns x f zk zc zq za zb pk ps pa pb pc pd:=by kernel_rfl
theorem br79b (w ht s v0 v1 d0 d1 r:Int) (ns:Nat) (x:Nat→Int) (f:Int) (zk zc zq za zb:Int) (pk ps pa pb pc pd:Int) (hp:(pk=2)∧(M.Gd.ok (M.Gd.mk w ht s v0 v1 d0 d1 r))∧(M.Gd.all (M.Gd.mk w ht s v0 v1 d0 d1 r) ns x)∧(ns≤64)∧(M.Gd.Sok (M.Gd.mk w ht s v0 v1 d0 d1 r) (M.Sc.mk zk zc zq za zb))∧(M.Pk.Vd ns (M.Pk.mk pk ps pa pb pc pd))∧AllP []):Rr79b w ht s v0 v1 d0 d1 r ns x f zk zc zq za zb pk ps pa pb pc pd:=by
 unfold Rr79b
 dsimp -iota -proj -eta -zeta only
 obtain ⟨hpk,hk,ha,hn,⟨z1,z2,z3,z4⟩,⟨u1,u2,u3,u4⟩,-⟩:=id hp
 simp only at z1 z2 z3 z4 u1 u2 u3 u4
 have hc:=ha ps.toNat (by omega)
 have hT:=M.Gd.T_bd hk z2 hc
 simp only [M.Gd.alL,M.Gd.alH,M.Gd.alB]
 have q1:ps<(ns:Int):=by omega
 have q2:ps.toNat<ns:=by omega
 have q3:0≤zq∧zq≤10:=by omega
 simp [hpk,hk,hc,z2,u2,q1,q2,q3]
 try omega
theorem s79b:PureOK PP 79 e79b:=by
 intro xs ps res h hp
 unfold e79b at h
 split at h
 ·rename_i w ht s v0 v1 d0 d1 r ns g_1 f zk zc zq za zb pk ps pa pb pc pd
  cases h
  simp only [AllP.cons] at hp
  obtain ⟨Hg_1,hp⟩:=hp
  exact Spec.args (enterH (Hold.of (r79b w ht s v0 v1 d0 d1 r ns (cI g_1 0) f zk zc zq za zb pk ps pa pb pc pd) (br79b w ht s v0 v1 d0 d1 r ns (cI g_1 0) f zk zc zq za zb pk ps pa pb pc pd hp)) (.nil) (.cons (pureE_ok s99b) (.cons (pureE_ok s112) (.cons (pureE_ok s64) (.cons (pureE_ok s68) (.nil))))) (k:=79) (by kernel_rfl) (by kernel_rfl) (fun _=>.nil)) (.cons (.agg (.cons (.refl _) (.cons (.refl _) (.cons (.refl _) (.cons (.refl _) (.cons (.refl _) (.cons (.refl _) (.cons (.refl _) (.cons (.refl _) (.cons (.row Hg_1 fun _=>rfl) (.cons (.refl _) .nil))))))))))) (.cons (.refl _) (.cons (.refl _) .nil)))
 ·cases h
def e79c:List SV→Option (List Prop × SV)
 | [.agg [.int .i64 w,.int .i64 ht,.int .i64 s,.int .i64 v0,.int .i64 v1,.int .i64 d0,.int .i64 d1,.int .i64 r,.sl 1 ns g_1,.int .i64 f],.agg [.int .i64 zk,.int .i64 zc,.int .i64 zq,.int .i64 za,.int .i64 zb],.agg [.int .i64 pk,.int .i64 ps,.int .i64 pa,.int .i64 pb,.int .i64 pc,.int .i64 pd]]=>some ([Row 1 ns g_1,pk=3,M.Gd.ok (M.Gd.mk w ht s v0 v1 d0 d1 r),M.Gd.all (M.Gd.mk w ht s v0 v1 d0 d1 r) ns (cI g_1 0),ns≤64,M.Gd.Sok (M.Gd.mk w ht s v0 v1 d0 d1 r) (M.Sc.mk zk zc zq za zb),M.Pk.Vd ns (M.Pk.mk pk ps pa pb pc pd)],.tup [.agg [SI (M.Gd.alL (M.Gd.mk w ht s v0 v1 d0 d1 r) (cI g_1 0) (M.Sc.mk zk zc zq za zb) (M.Pk.mk pk ps pa pb pc pd)),SI (M.Gd.alH (M.Gd.mk w ht s v0 v1 d0 d1 r) (cI g_1 0) (M.Sc.mk zk zc zq za zb) (M.Pk.mk pk ps pa pb pc pd))],.bool (M.Gd.alB (M.Gd.mk w ht s v0 v1 d0 d1 r) (cI g_1 0) (M.Sc.mk zk zc zq za zb) (M.Pk.mk pk ps pa pb pc pd))])
 | _=>none
def Rr79c (w ht s v0 v1 d0 d1 r:Int) (ns:Nat) (x:Nat→Int) (f:Int) (zk zc zq za zb:Int) (pk ps pa pb pc pd:Int):Prop:=(fun (z0:M.Gd) (z2:M.Pk) (z3:M.Sc)=>(fun (z1:Int) (z4:Prop)=>(0:Int)≤ps∧ps<(↑ns:Int)∧Int.toNat ps<ns∧pk=(3:Int)∧M.Gd.ok z0∧M.Gd.cell z0 zc∧z4∧M.Gd.ok z0∧M.Gd.cell z0 zc∧z4∧(0:Int)≤zq∧zq≤(10:Int)∧R64 z1∧R64 (z1+(1:Int))∧(z1+(1:Int)=M.Gd.alL z0 x z3 z2∧(1099511627776:Int)=M.Gd.alH z0 x z3 z2)∧true=M.Gd.alB z0 x z3 z2) (pa-M.Gd.T1 z0 zc (x (Int.toNat ps))) (M.Gd.cell z0 (x (Int.toNat ps)))) (M.Gd.mk w ht s v0 v1 d0 d1 r) (M.Pk.mk pk ps pa pb pc pd) (M.Sc.mk zk zc zq za zb)
theorem r79c (w ht s v0 v1 d0 d1 r:Int) (ns:Nat) (x:Nat→Int) (f:Int) (zk zc zq za zb:Int) (pk ps pa pb pc pd:Int):V true [] [(99,pureE e99c),(114,pureE e114),(64,pureE e64),(68,pureE e68)] Try.f79 [0,1,2,3,4,5,6,7,8,9] [] [.agg [SI w,SI ht,SI s,SI v0,SI v1,SI d0,SI d1,SI r,.sl 1 ns (fun k=>[SI (x k)]),SI f],.agg [SI zk,SI zc,SI zq,SI za,SI zb],.agg [SI pk,SI ps,SI pa,SI pb,SI pc,SI pd]] (.tup [.agg [SI (M.Gd.alL (M.Gd.mk w ht s v0 v1 d0 d1 r) x (M.Sc.mk zk zc zq za zb) (M.Pk.mk pk ps pa pb pc pd)),SI (M.Gd.alH (M.Gd.mk w ht s v0 v1 d0 d1 r) x (M.Sc.mk zk zc zq za zb) (M.Pk.mk pk ps pa pb pc pd))],.bool (M.Gd.alB (M.Gd.mk w ht s v0 v1 d0 d1 r) x (M.Sc.mk zk zc zq za zb) (M.Pk.mk pk ps pa pb pc pd))])=Rr79c w ht s v0 v1 d0 d1 r ns x f zk zc zq za zb pk ps pa pb pc pd:=by kernel_rfl
theorem br79c (w ht s v0 v1 d0 d1 r:Int) (ns:Nat) (x:Nat→Int) (f:Int) (zk zc zq za zb:Int) (pk ps pa pb pc pd:Int) (hp:(pk=3)∧(M.Gd.ok (M.Gd.mk w ht s v0 v1 d0 d1 r))∧(M.Gd.all (M.Gd.mk w ht s v0 v1 d0 d1 r) ns x)∧(ns≤64)∧(M.Gd.Sok (M.Gd.mk w ht s v0 v1 d0 d1 r) (M.Sc.mk zk zc zq za zb))∧(M.Pk.Vd ns (M.Pk.mk pk ps pa pb pc pd))∧AllP []):Rr79c w ht s v0 v1 d0 d1 r ns x f zk zc zq za zb pk ps pa pb pc pd:=by
 unfold Rr79c
 dsimp -iota -proj -eta -zeta only
 obtain ⟨hpk,hk,ha,hn,⟨z1,z2,z3,z4⟩,⟨u1,u2,u3,u4⟩,-⟩:=id hp
 simp only at z1 z2 z3 z4 u1 u2 u3 u4
 have hc:=ha ps.toNat (by omega)
 have hT:=M.Gd.T_bd hk z2 hc
 have u4:=u4 (by omega)
 simp only [M.Gd.alL,M.Gd.alH,M.Gd.alB]
 have q1:ps<(ns:Int):=by omega
 have q2:ps.toNat<ns:=by omega
 have q3:0≤zq∧zq≤10:=by omega
 simp [hpk,hk,hc,z2,u2,q1,q2,q3]
 unfold R64
 omega
theorem s79c:PureOK PP 79 e79c:=by
 intro xs ps res h hp
 unfold e79c at h
 split at h
 ·rename_i w ht s v0 v1 d0 d1 r ns g_1 f zk zc zq za zb pk ps pa pb pc pd
  cases h
  simp only [AllP.cons] at hp
  obtain ⟨Hg_1,hp⟩:=hp
  exact Spec.args (enterH (Hold.of (r79c w ht s v0 v1 d0 d1 r ns (cI g_1 0) f zk zc zq za zb pk ps pa pb pc pd) (br79c w ht s v0 v1 d0 d1 r ns (cI g_1 0) f zk zc zq za zb pk ps pa pb pc pd hp)) (.nil) (.cons (pureE_ok s99c) (.cons (pureE_ok s114) (.cons (pureE_ok s64) (.cons (pureE_ok s68) (.nil))))) (k:=79) (by kernel_rfl) (by kernel_rfl) (fun _=>.nil)) (.cons (.agg (.cons (.refl _) (.cons (.refl _) (.cons (.refl _) (.cons (.refl _) (.cons (.refl _) (.cons (.refl _) (.cons (.refl _) (.cons (.refl _) (.cons (.row Hg_1 fun _=>rfl) (.cons (.refl _) .nil))))))))))) (.cons (.refl _) (.cons (.refl _) .nil)))
 ·cases h
def e79:List SV→Option (List Prop × SV)
 | [.agg [.int .i64 w,.int .i64 ht,.int .i64 s,.int .i64 v0,.int .i64 v1,.int .i64 d0,.int .i64 d1,.int .i64 r,.sl 1 ns g_1,.int .i64 f],.agg [.int .i64 zk,.int .i64 zc,.int .i64 zq,.int .i64 za,.int .i64 zb],.agg [.int .i64 pk,.int .i64 ps,.int .i64 pa,.int .i64 pb,.int .i64 pc,.int .i64 pd]]=>some ([Row 1 ns g_1,M.Gd.ok (M.Gd.mk w ht s v0 v1 d0 d1 r),M.Gd.all (M.Gd.mk w ht s v0 v1 d0 d1 r) ns (cI g_1 0),ns≤64,M.Gd.Sok (M.Gd.mk w ht s v0 v1 d0 d1 r) (M.Sc.mk zk zc zq za zb),M.Pk.Vd ns (M.Pk.mk pk ps pa pb pc pd)],.tup [.agg [SI (M.Gd.alL (M.Gd.mk w ht s v0 v1 d0 d1 r) (cI g_1 0) (M.Sc.mk zk zc zq za zb) (M.Pk.mk pk ps pa pb pc pd)),SI (M.Gd.alH (M.Gd.mk w ht s v0 v1 d0 d1 r) (cI g_1 0) (M.Sc.mk zk zc zq za zb) (M.Pk.mk pk ps pa pb pc pd))],.bool (M.Gd.alB (M.Gd.mk w ht s v0 v1 d0 d1 r) (cI g_1 0) (M.Sc.mk zk zc zq za zb) (M.Pk.mk pk ps pa pb pc pd))])
 | _=>none
theorem s79:PureOK PP 79 e79:=by
 intro xs ps res h hp
 unfold e79 at h
 split at h
 ·rename_i w ht s v0 v1 d0 d1 r ns g f zk zc zq za zb pk ps' pa pb pc pd
  cases h
  simp only [AllP.cons] at hp
  obtain ⟨h1,h2,h3,h4,h5,h6,-⟩:=hp
  have g6:=h6.1
  simp only at g6
  by_cases c1:pk=1
  ·exact s79a _ _ _ rfl (AllP.cons.2 ⟨h1,AllP.cons.2 ⟨c1,AllP.cons.2 ⟨h2,AllP.cons.2 ⟨h3,AllP.cons.2 ⟨h4,AllP.cons.2 ⟨h5,AllP.cons.2 ⟨h6,AllP.nil⟩⟩⟩⟩⟩⟩⟩)
  ·by_cases c2:pk=2
   ·exact s79b _ _ _ rfl (AllP.cons.2 ⟨h1,AllP.cons.2 ⟨c2,AllP.cons.2 ⟨h2,AllP.cons.2 ⟨h3,AllP.cons.2 ⟨h4,AllP.cons.2 ⟨h5,AllP.cons.2 ⟨h6,AllP.nil⟩⟩⟩⟩⟩⟩⟩)
   ·exact s79c _ _ _ rfl (AllP.cons.2 ⟨h1,AllP.cons.2 ⟨by omega,AllP.cons.2 ⟨h2,AllP.cons.2 ⟨h3,AllP.cons.2 ⟨h4,AllP.cons.2 ⟨h5,AllP.cons.2 ⟨h6,AllP.nil⟩⟩⟩⟩⟩⟩⟩)
 ·cases h
end Go.Proofs.Ytoncoofmijjgeaa.Sep
namespace Go.Proofs.Ytoncoofmijjgeaa.M
def len {α:Type} (L:List α):Nat:=L.length
def rowI (L:List Int):Nat→Int:=fun k=>L.getD k 0
end Go.Proofs.Ytoncoofmijjgeaa.M
namespace Go.Proofs.Ytoncoofmijjgeaa.Sep
open Go
set_option linter.unusedVariables false
set_option linter.unusedSimpArgs false
end Go.Proofs.Ytoncoofmijjgeaa.Sep
namespace Go.Proofs.Ytoncoofmijjgeaa.Sep
open Go
set_option linter.unusedVariables false
set_option linter.unusedSimpArgs false
def lp100a (l:Nat) (a b:Int) (na:Nat) (u v:Nat→Int):LoopS where
 ι:=Nat
 β:=Unit
 pre i:=i≤na∧0≤a∧a≤b∧b≤1000000000∧na≤64
 μ i:=na-i
 next i _ _ _:=i+1
 out _:=()
 early _:=false
 SA i:=[(0,.lit (.func (.yield l) #[] #[])),(1,.sptr 2 1 (fun _=>[SI a,SI b]) 0 0),(4,.vec 0 2 0 (M.tlen a b u v i)),(5,SI 0),(18,.sl 2 na (fun k=>[SI (u k),SI (v k)])),(19,SI na),(20,SI i)]
 SH i:=[(0,.row 2 (M.tlen a b u v i) (fun k=>[SI (M.tuR a b u v i k).1,SI (M.tuR a b u v i k).2]))]
 n0:=1
 g0 _:=(0,true)
 NA _:=[(0,.lit (.func (.yield l) #[] #[])),(1,.sptr 2 1 (fun _=>[SI a,SI b]) 0 0),(4,.vec 0 2 0 (M.tlen a b u v na)),(5,SI 0)]
 NH _:=[(0,.row 2 (M.tlen a b u v na) (fun k=>[SI (M.tuR a b u v na k).1,SI (M.tuR a b u v na k).2]))]
 n1:=1
 gN _ k go:=k=0∧go=true
 gR _ _ _:=False
 RA _:=[]
 RH _:=[]
def Rq100a (l:Nat) (a b:Int) (na:Nat) (u v:Nat→Int) (i:Nat):Prop:=(fun (z8 z9 z13:Int) (z0 z1 z2:Nat) (z11:Nat→Int × Int) (z4 z10:Prop)=>(fun (z14:Int) (z3 z5:Nat) (z12:Nat→Int × Int) (z6 z7 z16:Prop)=>(fun (z15:Bool)=>(decide (z8<z9)=true→z13≤z8∧z8<z9∧z3<na∧z2<z0∧z2<z0∧(z15=true→R64 z14∧z6∧na-(i+z0)<na-i∧()=()∧z16∧true=true∧z4∧z0=z0∧z16∧z7∧z16∧z1=z5∧z13=z13∧z10∧z9=z9∧z14=(↑(i+z0):Int)∧z5≤z1∧(∀ (k:Nat),k<z5→(z11 k).1=(z12 k).1∧(z11 k).2=(z12 k).2)∧True)∧(z15=false→R64 (min (v z3) b+(1:Int))∧z2+(2:Nat)≤(2:Nat)∧(∀ (k:Nat),k<(2:Nat)→true=true)∧z1≤z1∧(z1+(2:Nat))*(16:Nat)≤(140737488355328:Nat)∧R64 z14∧z6∧na-(i+z0)<na-i∧()=()∧z16∧true=true∧z4∧z0=z0∧z16∧z7∧z16∧z1+(2:Nat)=z5∧z13=z13∧z10∧z9=z9∧z14=(↑(i+z0):Int)∧z5≤z1+(2:Nat)∧(∀ (k:Nat),k<z5→(bif decide (k<z1) then (z11 k).1 else bif decide (z2+(k-z1)=z0) then min (v z3) b+(1:Int) else bif decide (z2+(k-z1)=z2) then max (u z3) a else z13)=(z12 k).1∧(bif decide (k<z1) then (z11 k).2 else bif decide (z2+(k-z1)=z0) then (- 1:Int) else bif decide (z2+(k-z1)=z2) then (1:Int) else z13)=(z12 k).2)∧True))∧(decide (z8<z9)=false→(z16∧true=true)∧z4∧z0=z0∧z16∧z7∧z16∧z1=M.tlen a b u v na∧z13=z13∧M.tlen a b u v na≤z1∧(∀ (k:Nat),k<M.tlen a b u v na→(z11 k).1=(M.tuR a b u v na k).1∧(z11 k).2=(M.tuR a b u v na k).2)∧True)) (decide (min (v z3) b<max (u z3) a))) (z8+(1:Int)) (Int.toNat z8) (M.tlen a b u v (i+z0)) (M.tuR a b u v (i+z0)) (i+z0≤na∧z13≤a∧a≤b∧b≤(1000000000:Int)∧na≤(64:Nat)) (∀ (q:Nat),q<z0→a=a∧b=b) (z2=z2)) (↑i:Int) (↑na:Int) (0:Int) (1:Nat) (M.tlen a b u v i) (0:Nat) (M.tuR a b u v i) (Value.func (Fn.yield l) #[] #[]=Value.func (Fn.yield l) #[] #[]) (na=na∧∀ (k:Nat),k<na→u k=u k∧v k=v k)
theorem q100a (l:Nat) (a b:Int) (na:Nat) (u v:Nat→Int) (i:Nat):VL true [] [] ((YS.mk true l (M.stK a b (M.tuQ a b u v na) (M.tlen a b u v na)) (fun k=>[.agg [SI (M.ysR (M.stY a b (M.tuQ a b u v na) (M.tlen a b u v na)) k).1,SI (M.ysR (M.stY a b (M.tuQ a b u v na) (M.tlen a b u v na)) k).2.1],SI (M.ysR (M.stY a b (M.tuQ a b u v na) (M.tlen a b u v na)) k).2.2]))) Try.f100 0 [0,1,2,4,5,7,8,9,10,12,18,19,20,21,36,50,51,52,53,65,74] [] 0 (lp100a l a b na u v) (i)=Rq100a l a b na u v i:=by kernel_rfl
theorem peq100a (l:Nat) (a b:Int) (na:Nat) (u v:Nat→Int) (i:Nat):(lp100a l a b na u v).pre (i)=(i≤na∧(0:Int)≤a∧a≤b∧b≤(1000000000:Int)∧na≤(64:Nat)):=by kernel_rfl
theorem bq100a (l:Nat) (a b:Int) (na:Nat) (u v:Nat→Int) (i:Nat) (hp:i≤na∧(0:Int)≤a∧a≤b∧b≤(1000000000:Int)∧na≤(64:Nat)):Rq100a l a b na u v i:=by
 unfold Rq100a
 dsimp -iota -proj -eta -zeta only
 obtain ⟨h1,h2,h3,h4,h5⟩:=id hp
 have r1:R64 ((i:Int)+1):=by unfold R64; omega
 have hlen:M.tlen a b u v i≤1+2*i:=(M.tuL_len i).2
 simp only [Int.toNat_natCast,r1]
 by_cases hl:i<na
 ·have hl':(i:Int)<na:=by omega
  by_cases c:min (v i) b<max (u i) a
  ·obtain ⟨e1,e2⟩:=M.tu_stay (a:=a) (b:=b) (u:=u) (v:=v) c
   simp only [e1,e2]
   simp [hl,hl',c,h2,h3,h4,h5]
   try omega
  ·obtain ⟨e1,e2⟩:=M.tu_step (a:=a) (b:=b) (u:=u) (v:=v) c
   have r2:R64 (min (v i) b+1):=by unfold R64; omega
   have e3:∀ k,k<M.tlen a b u v i+2→(bif decide (k<M.tlen a b u v i) then (M.tuR a b u v i k).1 else bif decide (0+(k-M.tlen a b u v i)=1) then min (v i) b+1 else bif decide (0+(k-M.tlen a b u v i)=0) then max (u i) a else 0)=(M.tuR a b u v (i+1) k).1∧(bif decide (k<M.tlen a b u v i) then (M.tuR a b u v i k).2 else bif decide (0+(k-M.tlen a b u v i)=1) then -1 else bif decide (0+(k-M.tlen a b u v i)=0) then 1 else 0)=(M.tuR a b u v (i+1) k).2:=fun k hk=>by
    rw [e2 k hk]
    by_cases d1:k<M.tlen a b u v i
    ·simp [d1]
    ·by_cases d2:k=M.tlen a b u v i
     ·subst d2; simp
     ·have d3:k-M.tlen a b u v i=1:=by omega
      simp [d1,d2,d3]
   simp only [e1,r2]
   simp [hl,hl',c,h2,h3,h4,h5]
   repeat' apply And.intro
   all_goals first | omega | exact fun k hk=>by simpa using e3 k hk
 ·have e:i=na:=by omega
  subst e
  simp
theorem t100a (l:Nat) (a b:Int) (na:Nat) (u v:Nat→Int) {F:Fence} (hF:FOK F) (Y:YEnv PP ((YS.mk true l (M.stK a b (M.tuQ a b u v na) (M.tlen a b u v na)) (fun k=>[.agg [SI (M.ysR (M.stY a b (M.tuQ a b u v na) (M.tlen a b u v na)) k).1,SI (M.ysR (M.stY a b (M.tuQ a b u v na) (M.tlen a b u v na)) k).2.1],SI (M.ysR (M.stY a b (M.tuQ a b u v na) (M.tlen a b u v na)) k).2.2])))):∀ Q A H nx,loopT true Try.f100.ntmps 0 (lp100a l a b na u v) (fun _ _ _=>(0:Nat)) Q A H nx→WPS Y F Try.f100.ntmps 0 (.block 0 (blkAt 0 Try.f100)) Q A H nx :=
 loopW (E:=[]) (.nil) (O:=[]) (.nil) (ck:=true) (L:=[0,1,2,4,5,7,8,9,10,12,18,19,20,21,36,50,51,52,53,65,74]) (f:=Try.f100) (m:=0) (id:=0) (l:=(lp100a l a b na u v)) (LI:=fun i=>[]) Y hF (by kernel_rfl) (fun _=>.nil) (by
  rintro i hp
  exact Hold.of (q100a l a b na u v i) (bq100a l a b na u v i ((peq100a l a b na u v i).mp hp)))
def lp100b (l:Nat) (a b:Int) (na:Nat) (u v:Nat→Int):LoopS where
 ι:=Nat
 β:=Unit
 pre i:=i≤(M.tlen a b u v na)∧0≤a∧a≤b∧b≤1000000000∧na≤64
 μ i:=(M.tlen a b u v na)-i
 next i _ _ _:=i+1
 out _:=()
 early _:=true
 SA i:=[(0,.lit (.func (.yield l) #[] #[])),(1,.sptr 2 1 (fun _=>[SI a,SI b]) 0 0),(5,SI (M.stC a b (M.tuQ a b u v na) i)),(10,SI (M.stF a b (M.tuQ a b u v na) i)),(50,.vec 0 2 0 (M.tlen a b u v na)),(51,SI (M.tlen a b u v na)),(52,SI i)]
 SH i:=[(0,.row 2 (M.tlen a b u v na) (fun k=>[SI ((M.tuQ a b u v na) k).1,SI ((M.tuQ a b u v na) k).2]))]
 n0:=1
 g0 i:=(M.stK a b (M.tuQ a b u v na) i,true)
 NA _:=[]
 NH _:=[]
 n1:=0
 gN _ k go:=k=M.stK a b (M.tuQ a b u v na) (M.tlen a b u v na)
 gR _ k go:=go=true→k=M.stK a b (M.tuQ a b u v na) (M.tlen a b u v na)
 RA _:=[]
 RH _:=[]
def Rq100b (l:Nat) (a b:Int) (na:Nat) (u v:Nat→Int) (i:Nat):Prop:=(fun (z10:Int) (z3 z8:Nat) (z0:Nat→Int × Int)=>(fun (z1:Int × Int) (z7 z15 z17:Nat) (z2 z6 z14 z16:Prop)=>(fun (z4:Bool) (z11:Int) (z13:Int × Int × Int)=>(fun (z12:Bool) (z5 z9:Prop)=>(decide (z10<(↑z3:Int))=true→(0:Int)≤z10∧z10<(↑z3:Int)∧(0:Nat)+Int.toNat z10<z3∧z9∧(z4=true→(0:Nat)<z8)∧z9∧z9∧z9∧(z12=true→R64 (z1.1-(1:Int))∧true=true∧l=l∧z7<z15∧((M.stF a b z0 i=z13.1∧z1.1-(1:Int)=z13.2.1)∧M.stC a b z0 i=z13.2.2)∧(((!true)=true→(true=true→z7+z8=z15)∧True)∧((!true)=false→R64 z11∧z16∧z6∧z14∧()=()∧z7+z8=z17∧true=true∧z5))∧((!false)=true→(false=true→z7+z8=z15)∧True)∧((!false)=false→R64 z11∧z16∧z6∧z14∧()=()∧z7+z8=z17∧false=true∧z5))∧(z12=false→R64 z11∧z16∧z6∧z14∧()=()∧z7=z17∧true=true∧Value.func (Fn.yield l) #[] #[]=Value.func (Fn.yield l) #[] #[]∧z8=z8∧(0:Nat)=(0:Nat)∧(∀ (q:Nat),q<z8→a=a∧b=b)∧z11=M.stC a b z0 (i+z8)∧M.stF a b z0 i=M.stF a b z0 (i+z8)∧z2))∧(decide (z10<(↑z3:Int))=false→z7=z15∧True)) (bif z4 then decide (M.stF a b z0 i≤b) else false) (Value.func (Fn.yield l) #[] #[]=Value.func (Fn.yield l) #[] #[]∧z8=z8∧(0:Nat)=(0:Nat)∧(∀ (q:Nat),q<z8→a=a∧b=b)∧z11=M.stC a b z0 (i+z8)∧z1.1=M.stF a b z0 (i+z8)∧z2) (z4=true→z4=true)) (decide (M.stF a b z0 i<z1.1)) (M.stC a b z0 i+z1.2) (M.ysR (M.stY a b z0 z3) z7)) (z0 ((0:Nat)+Int.toNat z10)) (M.stK a b z0 i) (M.stK a b z0 z3) (M.stK a b z0 (i+z8)) ((0:Nat)=(0:Nat)∧z3=z3∧(↑z3:Int)=(↑z3:Int)∧z10+(1:Int)=(↑(i+z8):Int)∧z3≤z3∧(∀ (k:Nat),k<z3→(z0 k).1=(z0 k).1∧(z0 k).2=(z0 k).2)∧True) (i+z8≤z3∧(0:Int)≤a∧a≤b∧b≤(1000000000:Int)∧na≤(64:Nat)) (z3-(i+z8)<z3-i) (R64 (z10+(1:Int)))) (↑i:Int) (M.tlen a b u v na) (1:Nat) (M.tuQ a b u v na)
theorem q100b (l:Nat) (a b:Int) (na:Nat) (u v:Nat→Int) (i:Nat):VL true [] [] ((YS.mk true l (M.stK a b (M.tuQ a b u v na) (M.tlen a b u v na)) (fun k=>[.agg [SI (M.ysR (M.stY a b (M.tuQ a b u v na) (M.tlen a b u v na)) k).1,SI (M.ysR (M.stY a b (M.tuQ a b u v na) (M.tlen a b u v na)) k).2.1],SI (M.ysR (M.stY a b (M.tuQ a b u v na) (M.tlen a b u v na)) k).2.2]))) Try.f100 0 [0,1,2,4,5,7,8,9,10,12,18,19,20,21,36,50,51,52,53,65,74] [] 2 (lp100b l a b na u v) (i)=Rq100b l a b na u v i:=by kernel_rfl
theorem peq100b (l:Nat) (a b:Int) (na:Nat) (u v:Nat→Int) (i:Nat):(lp100b l a b na u v).pre (i)=(i≤M.tlen a b u v na∧(0:Int)≤a∧a≤b∧b≤(1000000000:Int)∧na≤(64:Nat)):=by kernel_rfl
theorem bq100b (l:Nat) (a b:Int) (na:Nat) (u v:Nat→Int) (i:Nat) (hp:i≤M.tlen a b u v na∧(0:Int)≤a∧a≤b∧b≤(1000000000:Int)∧na≤(64:Nat)):Rq100b l a b na u v i:=by
 unfold Rq100b
 dsimp -iota -proj -eta -zeta only
 obtain ⟨h1,h2,h3,h4,h5⟩:=id hp
 have hlen:(M.tlen a b u v na)≤1+2*na:=(M.tuL_len na).2
 have r1:R64 ((i:Int)+1):=by unfold R64; omega
 have hin:=@M.tuQ_in a b u v na h3
 have hbd:=M.st_bd h3 hin i h1
 simp only [Int.toNat_natCast,Nat.zero_add,r1]
 by_cases hl:i<(M.tlen a b u v na)
 ·have hl':(i:Int)<((M.tlen a b u v na):Int):=by omega
  have hq:=hin i hl
  have r2:R64 ((M.tuQ a b u v na i).1-1):=by unfold R64; omega
  have r3:R64 (M.stC a b (M.tuQ a b u v na) i+(M.tuQ a b u v na i).2):=by unfold R64; omega
  by_cases c1:M.stF a b (M.tuQ a b u v na) i<(M.tuQ a b u v na i).1
  ·by_cases c2:M.stF a b (M.tuQ a b u v na) i≤b
   ·obtain ⟨s1,s2,s3,s4⟩:=M.st_step (q:=(M.tuQ a b u v na)) ⟨c1,c2⟩
    obtain ⟨g1,g2⟩:=M.stY_get (q:=(M.tuQ a b u v na)) hl ⟨c1,c2⟩
    simp only [s1,s2,s4,g1,g2,r2,r3]
    simp [hl,hl',c1,c2,h2,h3,h4,h5]
    try omega
   ·obtain ⟨s1,s2,s3,s4⟩:=M.st_stay (q:=(M.tuQ a b u v na)) (a:=a) (b:=b) (i:=i) (by omega)
    simp only [s1,s2,s4,r2,r3]
    simp [hl,hl',c1,c2,h2,h3,h4,h5]
    try omega
  ·obtain ⟨s1,s2,s3,s4⟩:=M.st_stay (q:=(M.tuQ a b u v na)) (a:=a) (b:=b) (i:=i) (by omega)
   simp only [s1,s2,s4,r2,r3]
   simp [hl,hl',c1,h2,h3,h4,h5]
   try omega
 ·have e:i=(M.tlen a b u v na):=by omega
  rw [e]
  simp
theorem t100b (l:Nat) (a b:Int) (na:Nat) (u v:Nat→Int) {F:Fence} (hF:FOK F) (Y:YEnv PP ((YS.mk true l (M.stK a b (M.tuQ a b u v na) (M.tlen a b u v na)) (fun k=>[.agg [SI (M.ysR (M.stY a b (M.tuQ a b u v na) (M.tlen a b u v na)) k).1,SI (M.ysR (M.stY a b (M.tuQ a b u v na) (M.tlen a b u v na)) k).2.1],SI (M.ysR (M.stY a b (M.tuQ a b u v na) (M.tlen a b u v na)) k).2.2])))):∀ Q A H nx,loopT true Try.f100.ntmps 0 (lp100b l a b na u v) (fun _ _ _=>(0:Nat)) Q A H nx→WPS Y F Try.f100.ntmps 0 (.block 2 (blkAt 2 Try.f100)) Q A H nx :=
 loopW (E:=[]) (.nil) (O:=[]) (.nil) (ck:=true) (L:=[0,1,2,4,5,7,8,9,10,12,18,19,20,21,36,50,51,52,53,65,74]) (f:=Try.f100) (m:=0) (id:=2) (l:=(lp100b l a b na u v)) (LI:=fun i=>[]) Y hF (by kernel_rfl) (fun _=>.nil) (by
  rintro i hp
  exact Hold.of (q100b l a b na u v i) (bq100b l a b na u v i ((peq100b l a b na u v i).mp hp)))
def j100:List SV→Option (List Prop × Nat × (Nat→List SV))
 | [.sptr 2 1 F_1 0 0,.sptr 1 1 F_2 0 0]=>match F_1 0,F_2 0 with
  | [.int .i64 a,.int .i64 b],[.sl 2 na g_3]=>some ([Row 2 na g_3,0≤a,a≤b,b≤1000000000,na≤64],(M.stK a b (M.tuQ a b (cI g_3 0) (cI g_3 1) na) (M.tlen a b (cI g_3 0) (cI g_3 1) na)),((fun k=>[.agg [SI (M.ysR (M.stY a b (M.tuQ a b (cI g_3 0) (cI g_3 1) na) (M.tlen a b (cI g_3 0) (cI g_3 1) na)) k).1,SI (M.ysR (M.stY a b (M.tuQ a b (cI g_3 0) (cI g_3 1) na) (M.tlen a b (cI g_3 0) (cI g_3 1) na)) k).2.1],SI (M.ysR (M.stY a b (M.tuQ a b (cI g_3 0) (cI g_3 1) na) (M.tlen a b (cI g_3 0) (cI g_3 1) na)) k).2.2])))
  | _,_=>none
 | _=>none
def Rv100 (l:Nat) (a b:Int) (na:Nat) (u v:Nat→Int):Prop:=(0:Nat)<(1:Nat)∧R64 (b+(1:Int))∧(0:Nat)<(1:Nat)∧((0:Nat)≤na∧(0:Int)≤a∧a≤b∧b≤(1000000000:Int)∧na≤(64:Nat))∧((0:Nat)=(0:Nat)∧true=true∧Value.func (Fn.yield l) #[] #[]=Value.func (Fn.yield l) #[] #[]∧(1:Nat)=(1:Nat)∧(0:Nat)=(0:Nat)∧(∀ (q:Nat),q<(1:Nat)→a=a∧b=b)∧(0:Nat)=(0:Nat)∧(1:Nat)=M.tlen a b u v (0:Nat)∧(0:Int)=(0:Int)∧(na=na∧∀ (k:Nat),k<na→u k=u k∧v k=v k)∧(↑na:Int)=(↑na:Int)∧(0:Int)=(↑(0:Nat):Int)∧M.tlen a b u v (0:Nat)≤(1:Nat)∧(∀ (k:Nat),k<M.tlen a b u v (0:Nat)→b+(1:Int)=(M.tuR a b u v (0:Nat) k).1∧(0:Int)=(M.tuR a b u v (0:Nat) k).2)∧True)∧(∀ (k:Nat) (go:Bool),k=(0:Nat)∧go=true→(∀ (k:Nat),k<M.tlen a b u v na→(M.tuR a b u v na k).1=(M.tuR a b u v na k).1∧(M.tuR a b u v na k).2=(M.tuR a b u v na k).2)∧M.tlen a b u v na=M.tlen a b u v na∧M.tlen a b u v na≤(200:Nat)∧(0:Nat)<(1:Nat)∧((0:Nat)≤M.tlen a b u v na∧(0:Int)≤a∧a≤b∧b≤(1000000000:Int)∧na≤(64:Nat))∧(k=M.stK a b (M.tuQ a b u v na) (0:Nat)∧go=true∧Value.func (Fn.yield l) #[] #[]=Value.func (Fn.yield l) #[] #[]∧(1:Nat)=(1:Nat)∧(0:Nat)=(0:Nat)∧(∀ (q:Nat),q<(1:Nat)→a=a∧b=b)∧(0:Int)=M.stC a b (M.tuQ a b u v na) (0:Nat)∧a=M.stF a b (M.tuQ a b u v na) (0:Nat)∧(0:Nat)=(0:Nat)∧M.tlen a b u v na=M.tlen a b u v na∧(↑(M.tlen a b u v na):Int)=(↑(M.tlen a b u v na):Int)∧(0:Int)=(↑(0:Nat):Int)∧M.tlen a b u v na≤M.tlen a b u v na∧(∀ (k:Nat),k<M.tlen a b u v na→(M.srt2 (M.tlen a b u v na) (M.tuR a b u v na) k).1=(M.tuQ a b u v na k).1∧(M.srt2 (M.tlen a b u v na) (M.tuR a b u v na) k).2=(M.tuQ a b u v na k).2)∧True)∧(∀ (k:Nat) (go:Bool),k=M.stK a b (M.tuQ a b u v na) (M.tlen a b u v na)→go=true→k=M.stK a b (M.tuQ a b u v na) (M.tlen a b u v na))∧∀ (k:Nat) (go:Bool),(go=true→k=M.stK a b (M.tuQ a b u v na) (M.tlen a b u v na))→go=true→k=M.stK a b (M.tuQ a b u v na) (M.tlen a b u v na))∧∀ (k:Nat) (go:Bool),False→go=true→k=M.stK a b (M.tuQ a b u v na) (M.tlen a b u v na)
theorem v100 (l:Nat) (a b:Int) (na:Nat) (u v:Nat→Int):VI true [] [(101,specW e101)] Try.f100 [0,1,2,4,5,7,8,9,10,12,18,19,20,21,36,50,51,52,53,65,74] [(0,loopT true Try.f100.ntmps 0 (lp100a l a b na u v) (fun _ _ _=>(0:Nat))),(2,loopT true Try.f100.ntmps 0 (lp100b l a b na u v) (fun _ _ _=>(0:Nat)))] [.sptr 2 1 (fun _=>[SI a,SI b]) 0 0,.sptr 1 1 (fun _=>[.sl 2 na (fun k=>[SI (u k),SI (v k)])]) 0 0] l (M.stK a b (M.tuQ a b u v na) (M.tlen a b u v na)) ((fun k=>[.agg [SI (M.ysR (M.stY a b (M.tuQ a b u v na) (M.tlen a b u v na)) k).1,SI (M.ysR (M.stY a b (M.tuQ a b u v na) (M.tlen a b u v na)) k).2.1],SI (M.ysR (M.stY a b (M.tuQ a b u v na) (M.tlen a b u v na)) k).2.2]))=Rv100 l a b na u v:=by kernel_rfl
theorem bv100 (l:Nat) (a b:Int) (na:Nat) (u v:Nat→Int) (hp:(0≤a)∧(a≤b)∧(b≤1000000000)∧(na≤64)∧AllP []):Rv100 l a b na u v:=by
 unfold Rv100
 obtain ⟨h2,h3,h4,h5,-⟩:=id hp
 have hlen:(M.tlen a b u v na)≤1+2*na:=(M.tuL_len na).2
 have r1:R64 (b+1):=by unfold R64; omega
 have e0:M.tlen a b u v 0=1:=rfl
 have e1:∀ k,k<1→b+1=(M.tuR a b u v 0 k).1∧0=(M.tuR a b u v 0 k).2:=fun k hk=>by
  have:k=0:=by omega
  subst this
  exact ⟨rfl,rfl⟩
 have e2:M.stK a b (M.tuQ a b u v na) 0=0:=rfl
 have e3:M.stC a b (M.tuQ a b u v na) 0=0:=rfl
 have e4:M.stF a b (M.tuQ a b u v na) 0=a:=rfl
 have e5:M.srt2 (M.tlen a b u v na) (M.tuR a b u v na)=(M.tuQ a b u v na):=rfl
 simp only [e0,e2,e3,e4,e5,r1]
 generalize (M.tlen a b u v na)=n at *
 simp [h2,h3,h4,h5]
 exact ⟨⟨rfl,rfl⟩,by omega⟩
theorem i100:IterOK PP 100 j100:=by
 intro xs ps n f h hp
 unfold j100 at h
 split at h
 ·rename_i F_1 F_2
  split at h
  ·rename_i a b na g_3 EF_1 EF_2
   cases h
   simp only [AllP.cons] at hp
   obtain ⟨Hg_3,hp⟩:=hp
   refine Iter.args (ys:=[.sptr 2 1 (fun _=>[SI a,SI b]) 0 0,.sptr 1 1 (fun _=>[.sl 2 na (fun k=>[SI ((cI g_3 0) k),SI ((cI g_3 1) k)])]) 0 0]) ?_ (.cons (.ref EF_1 (.refl _)) (.cons (.ref EF_2 (.cons (.row Hg_3 fun _=>rfl) .nil)) .nil))
   refine enterI (L:=[0,1,2,4,5,7,8,9,10,12,18,19,20,21,36,50,51,52,53,65,74]) (LO:=fun l=>[(0,loopT true Try.f100.ntmps 0 (lp100a l a b na (cI g_3 0) (cI g_3 1)) (fun _ _ _=>(0:Nat))),(2,loopT true Try.f100.ntmps 0 (lp100b l a b na (cI g_3 0) (cI g_3 1)) (fun _ _ _=>(0:Nat)))]) (E:=[]) (O:=[(101,specW e101)]) (ck:=true) (.nil) (.cons (specW_ok s101) (.nil)) (k:=100) (f:=Try.f100) (xs:=[.sptr 2 1 (fun _=>[SI a,SI b]) 0 0,.sptr 1 1 (fun _=>[.sl 2 na (fun k=>[SI ((cI g_3 0) k),SI ((cI g_3 1) k)])]) 0 0]) (by kernel_rfl) (by kernel_rfl) (fun _=>rfl) (fun l Y=>.cons (by kernel_rfl) (t100a l a b na (cI g_3 0) (cI g_3 1) FOK.wide Y) (.cons (by kernel_rfl) (t100b l a b na (cI g_3 0) (cI g_3 1) FOK.wide Y) (.nil))) fun l => ?_
   exact Hold.of (v100 l a b na (cI g_3 0) (cI g_3 1)) (bv100 l a b na (cI g_3 0) (cI g_3 1) hp)
  ·cases h
 ·cases h
end Go.Proofs.Ytoncoofmijjgeaa.Sep
namespace Go.Proofs.Ytoncoofmijjgeaa.M
namespace Gd
def aln (g:Gd) (x:Nat→Int) (s:Sc) (P:Nat→Pk) (m:Nat):Nat:=(g.alS x s P m).length
def alR (g:Gd) (x:Nat→Int) (s:Sc) (P:Nat→Pk) (m:Nat):Nat→Int × Int:=rowL (g.alS x s P m)
theorem al_stay {g:Gd} {x:Nat→Int} {s:Sc} {P:Nat→Pk} {m:Nat} (h:¬ g.alB x s (P m)=true):g.aln x s P (m+1)=g.aln x s P m∧g.alR x s P (m+1)=g.alR x s P m:=by
 have e:g.alS x s P (m+1)=g.alS x s P m:=by
  conv=>lhs; unfold alS
  rw [if_neg h]
 unfold aln alR
 rw [e]
 exact ⟨rfl,rfl⟩
theorem al_step {g:Gd} {x:Nat→Int} {s:Sc} {P:Nat→Pk} {m:Nat} (h:g.alB x s (P m)=true):g.aln x s P (m+1)=g.aln x s P m+1∧∀ k,k<g.aln x s P m+1→g.alR x s P (m+1) k=if k<g.aln x s P m then g.alR x s P m k else (g.alL x s (P m),g.alH x s (P m)):=by
 have e:g.alS x s P (m+1)=g.alS x s P m ++ [(g.alL x s (P m),g.alH x s (P m))]:=by
  conv=>lhs; unfold alS
  rw [if_pos h]
 unfold aln alR
 rw [e]
 refine ⟨by simp,fun k hk => ?_⟩
 unfold rowL
 rw [List.getD_eq_getElem?_getD,List.getD_eq_getElem?_getD]
 by_cases c:k<(g.alS x s P m).length
 ·rw [List.getElem?_append_left c,if_pos c]
 ·rw [List.getElem?_append_right (by omega),if_neg c]
  have e:k-(g.alS x s P m).length=0:=by omega
  rw [e]; rfl
end Gd
def lfK (thr:Int) (L:List (Int × Int × Int)) (k:Nat):Bool × Int × Int:=(L.take k).foldl (lfOne thr) (false,0,0)
theorem lfK_succ {thr:Int} {L:List (Int × Int × Int)} {k:Nat} (h:k<L.length):lfK thr L (k+1)=lfOne thr (lfK thr L k) (ysR L k):=by
 unfold lfK ysR
 have e:L.take (k+1)=L.take k ++ [L.getD k (0,0,0)]:=by
  rw [List.take_add_one]; simp [h]
 rw [e,List.foldl_append]
 rfl
theorem lfK_len {thr:Int} {L:List (Int × Int × Int)} : lfK thr L L.length=L.foldl (lfOne thr) (false,0,0):=by unfold lfK; rw [List.take_length]
end Go.Proofs.Ytoncoofmijjgeaa.M
namespace Go.Proofs.Ytoncoofmijjgeaa.Sep
open Go
set_option linter.unusedVariables false
set_option linter.unusedSimpArgs false
--#def NA(i) (M.Gd.aln (M.Gd.mk w ht s v0 v1 d0 d1 r) x (M.Sc.mk zk zc zq za zb) (fun i => M.Pk.mk (pk i) (ps i) (pa i) (pb i) (pc i) (pd i)) i)
--#def RA(i) (M.Gd.alR (M.Gd.mk w ht s v0 v1 d0 d1 r) x (M.Sc.mk zk zc zq za zb) (fun i => M.Pk.mk (pk i) (ps i) (pa i) (pb i) (pc i) (pd i)) i)
--#def FK(k) (M.lfK ((m : Int) - f) (M.stY za zb (M.tuQ za zb (fun k => (M.Gd.alR (M.Gd.mk w ht s v0 v1 d0 d1 r) x (M.Sc.mk zk zc zq za zb) (fun i => M.Pk.mk (pk i) (ps i) (pa i) (pb i) (pc i) (pd i)) m k).1) (fun k => (M.Gd.alR (M.Gd.mk w ht s v0 v1 d0 d1 r) x (M.Sc.mk zk zc zq za zb) (fun i => M.Pk.mk (pk i) (ps i) (pa i) (pb i) (pc i) (pd i)) m k).2) (M.Gd.aln (M.Gd.mk w ht s v0 v1 d0 d1 r) x (M.Sc.mk zk zc zq za zb) (fun i => M.Pk.mk (pk i) (ps i) (pa i) (pb i) (pc i) (pd i)) m)) (M.tlen za zb (fun k => (M.Gd.alR (M.Gd.mk w ht s v0 v1 d0 d1 r) x (M.Sc.mk zk zc zq za zb) (fun i => M.Pk.mk (pk i) (ps i) (pa i) (pb i) (pc i) (pd i)) m k).1) (fun k => (M.Gd.alR (M.Gd.mk w ht s v0 v1 d0 d1 r) x (M.Sc.mk zk zc zq za zb) (fun i => M.Pk.mk (pk i) (ps i) (pa i) (pb i) (pc i) (pd i)) m k).2) (M.Gd.aln (M.Gd.mk w ht s v0 v1 d0 d1 r) x (M.Sc.mk zk zc zq za zb) (fun i => M.Pk.mk (pk i) (ps i) (pa i) (pb i) (pc i) (pd i)) m))) k)
def e80:List SV→Option (List Prop × SV)
 | [.agg [.int .i64 a,.int .i64 b],.sl 2 na g_1]=>some ([Row 2 na g_1],.fn 100 [] [.sptr 2 1 (fun _=>[SI a,SI b]) 0 0,.sptr 1 1 (fun _=>[.sl 2 na (fun k=>[SI ((cI g_1 0) k),SI ((cI g_1 1) k)])]) 0 0])
 | _=>none
def Rr80 (a b:Int) (na:Nat) (u v:Nat→Int):Prop:=True∧((1:Nat)=(1:Nat)∧(0:Nat)=(0:Nat)∧∀ (q:Nat),q<(1:Nat)→a=a∧b=b)∧(1:Nat)=(1:Nat)∧(0:Nat)=(0:Nat)∧∀ (q:Nat),q<(1:Nat)→na=na∧∀ (k:Nat),k<na→u k=u k∧v k=v k
theorem r80 (a b:Int) (na:Nat) (u v:Nat→Int):V true [] [] Try.f80 [0,1,2,3,4] [] [.agg [SI a,SI b],.sl 2 na (fun k=>[SI (u k),SI (v k)])] (.fn 100 [] [.sptr 2 1 (fun _=>[SI a,SI b]) 0 0,.sptr 1 1 (fun _=>[.sl 2 na (fun k=>[SI (u k),SI (v k)])]) 0 0])=Rr80 a b na u v:=by kernel_rfl
theorem br80 (a b:Int) (na:Nat) (u v:Nat→Int)  : Rr80 a b na u v:=by
 unfold Rr80
 simp
theorem s80:PureOK PP 80 e80:=by
 intro xs ps res h hp
 unfold e80 at h
 split at h
 ·rename_i a b na g_1
  cases h
  simp only [AllP.cons] at hp
  obtain ⟨Hg_1,hp⟩:=hp
  exact Spec.args (enterH (Hold.of (r80 a b na (cI g_1 0) (cI g_1 1)) (br80 a b na (cI g_1 0) (cI g_1 1) )) (.nil) (.nil) (k:=80) (by kernel_rfl) (by kernel_rfl) (fun _=>.nil)) (.cons (.refl _) (.cons (.row Hg_1 fun _=>rfl) .nil))
 ·cases h
def lp90a (w ht s v0 v1 d0 d1 r:Int) (ns:Nat) (x:Nat→Int) (f:Int) (zk zc zq za zb:Int) (m:Nat) (pk ps pa pb pc pd:Nat→Int):LoopS where
 ι:=Nat
 β:=Unit
 pre i:=i≤m∧M.Gd.ok (M.Gd.mk w ht s v0 v1 d0 d1 r)∧M.Gd.all (M.Gd.mk w ht s v0 v1 d0 d1 r) ns x∧ns≤64∧M.Gd.Sok (M.Gd.mk w ht s v0 v1 d0 d1 r) (M.Sc.mk zk zc zq za zb)∧(∀ i,i<m→M.Pk.Vd ns ((fun i=>M.Pk.mk (pk i) (ps i) (pa i) (pb i) (pc i) (pd i)) i))∧m≤64
 μ i:=m-i
 next i _ _ _:=i+1
 out _:=()
 early _:=false
 SA i:=[(3,.ptr 0 0),(4,.ptr 1 0),(5,.ptr 2 0),(6,.ptr 3 0),(8,.vec 4 2 0 (M.Gd.aln (M.Gd.mk w ht s v0 v1 d0 d1 r) x (M.Sc.mk zk zc zq za zb) (fun i=>M.Pk.mk (pk i) (ps i) (pa i) (pb i) (pc i) (pd i)) i)),(17,.sl 6 m (fun j=>[SI (pk j),SI (ps j),SI (pa j),SI (pb j),SI (pc j),SI (pd j)])),(18,SI m),(19,SI i)]
 SH i:=[(0,.cells [SI w,SI ht,SI s,SI v0,SI v1,SI d0,SI d1,SI r,.sl 1 ns (fun k=>[SI (x k)]),SI f]),(1,.cells [SI zk,SI zc,SI zq,SI za,SI zb]),(2,.cells [.sl 6 m (fun j=>[SI (pk j),SI (ps j),SI (pa j),SI (pb j),SI (pc j),SI (pd j)])]),(3,.cells [SI 0,SI 0]),(4,.row 2 (M.Gd.aln (M.Gd.mk w ht s v0 v1 d0 d1 r) x (M.Sc.mk zk zc zq za zb) (fun i=>M.Pk.mk (pk i) (ps i) (pa i) (pb i) (pc i) (pd i)) i) (fun k=>[SI (M.Gd.alR (M.Gd.mk w ht s v0 v1 d0 d1 r) x (M.Sc.mk zk zc zq za zb) (fun i=>M.Pk.mk (pk i) (ps i) (pa i) (pb i) (pc i) (pd i)) i k).1,SI (M.Gd.alR (M.Gd.mk w ht s v0 v1 d0 d1 r) x (M.Sc.mk zk zc zq za zb) (fun i=>M.Pk.mk (pk i) (ps i) (pa i) (pb i) (pc i) (pd i)) i k).2]))]
 n0:=5
 NA _:=[(3,.ptr 0 0),(4,.ptr 1 0),(5,.ptr 2 0),(6,.ptr 3 0),(8,.vec 4 2 0 (M.Gd.aln (M.Gd.mk w ht s v0 v1 d0 d1 r) x (M.Sc.mk zk zc zq za zb) (fun i=>M.Pk.mk (pk i) (ps i) (pa i) (pb i) (pc i) (pd i)) m))]
 NH _:=[(0,.cells [SI w,SI ht,SI s,SI v0,SI v1,SI d0,SI d1,SI r,.sl 1 ns (fun k=>[SI (x k)]),SI f]),(1,.cells [SI zk,SI zc,SI zq,SI za,SI zb]),(2,.cells [.sl 6 m (fun j=>[SI (pk j),SI (ps j),SI (pa j),SI (pb j),SI (pc j),SI (pd j)])]),(3,.cells [SI 0,SI 0]),(4,.row 2 (M.Gd.aln (M.Gd.mk w ht s v0 v1 d0 d1 r) x (M.Sc.mk zk zc zq za zb) (fun i=>M.Pk.mk (pk i) (ps i) (pa i) (pb i) (pc i) (pd i)) m) (fun k=>[SI (M.Gd.alR (M.Gd.mk w ht s v0 v1 d0 d1 r) x (M.Sc.mk zk zc zq za zb) (fun i=>M.Pk.mk (pk i) (ps i) (pa i) (pb i) (pc i) (pd i)) m k).1,SI (M.Gd.alR (M.Gd.mk w ht s v0 v1 d0 d1 r) x (M.Sc.mk zk zc zq za zb) (fun i=>M.Pk.mk (pk i) (ps i) (pa i) (pb i) (pc i) (pd i)) m k).2]))]
 n1:=5
 RA _:=[]
 RH _:=[]
def Rq90a (w ht s v0 v1 d0 d1 r:Int) (ns:Nat) (x:Nat→Int) (f:Int) (zk zc zq za zb:Int) (m:Nat) (pk ps pa pb pc pd:Nat→Int) (i:Nat):Prop:=(fun (z12 z14:Int) (z1:M.Gd) (z2:M.Sc) (z7 z16:Nat) (z0:Nat→M.Pk) (z4 z8 z10:Prop)=>(fun (z15:Int) (z3:M.Pk) (z6 z9 z17:Nat) (z11 z13:Nat→Int × Int) (z5:Prop)=>(decide (z12<z14)=true→(0:Int)≤z12∧z12<z14∧Int.toNat z12<m∧z8∧M.Gd.ok z1∧M.Gd.all z1 ns x∧ns≤(64:Nat)∧M.Gd.Sok z1 z2∧M.Pk.Vd ns z3∧(M.Gd.alB z1 x z2 z3=true→z16+(1:Nat)≤(1:Nat)∧(∀ (k:Nat),k<(1:Nat)→true=true)∧z6≤z6∧(z6+(1:Nat))*(16:Nat)≤(140737488355328:Nat)∧R64 z15∧z5∧m-z7<m-i∧()=()∧z16=z16∧z6+(1:Nat)=z9∧z4∧z14=z14∧z15=(↑z7:Int)∧w=w∧ht=ht∧s=s∧v0=v0∧v1=v1∧d0=d0∧d1=d1∧r=r∧(ns=ns∧z8)∧f=f∧zk=zk∧zc=zc∧zq=zq∧za=za∧zb=zb∧z4∧z10∧z10∧z9≤z6+(1:Nat)∧(∀ (k:Nat),k<z9→(bif decide (k<z6) then (z11 k).1 else M.Gd.alL z1 x z2 z3)=(z13 k).1∧(bif decide (k<z6) then (z11 k).2 else M.Gd.alH z1 x z2 z3)=(z13 k).2)∧True)∧(M.Gd.alB z1 x z2 z3=false→R64 z15∧z5∧m-z7<m-i∧()=()∧z16=z16∧z6=z9∧z4∧z14=z14∧z15=(↑z7:Int)∧w=w∧ht=ht∧s=s∧v0=v0∧v1=v1∧d0=d0∧d1=d1∧r=r∧(ns=ns∧z8)∧f=f∧zk=zk∧zc=zc∧zq=zq∧za=za∧zb=zb∧z4∧z10∧z10∧z9≤z6∧(∀ (k:Nat),k<z9→(z11 k).1=(z13 k).1∧(z11 k).2=(z13 k).2)∧True))∧(decide (z12<z14)=false→false=false∧z16=z16∧z6=z17∧w=w∧ht=ht∧s=s∧v0=v0∧v1=v1∧d0=d0∧d1=d1∧r=r∧(ns=ns∧z8)∧f=f∧zk=zk∧zc=zc∧zq=zq∧za=za∧zb=zb∧z4∧z10∧z10∧z17≤z6∧(∀ (k:Nat),k<z17→(z11 k).1=(M.Gd.alR z1 x z2 z0 m k).1∧(z11 k).2=(M.Gd.alR z1 x z2 z0 m k).2)∧True)) (z12+(1:Int)) (M.Pk.mk (pk (Int.toNat z12)) (ps (Int.toNat z12)) (pa (Int.toNat z12)) (pb (Int.toNat z12)) (pc (Int.toNat z12)) (pd (Int.toNat z12))) (M.Gd.aln z1 x z2 z0 i) (M.Gd.aln z1 x z2 z0 z7) (M.Gd.aln z1 x z2 z0 m) (M.Gd.alR z1 x z2 z0 i) (M.Gd.alR z1 x z2 z0 z7) (z7≤m∧M.Gd.ok z1∧M.Gd.all z1 ns x∧ns≤(64:Nat)∧M.Gd.Sok z1 z2∧(∀ (i:Nat),i<m→M.Pk.Vd ns (M.Pk.mk (pk i) (ps i) (pa i) (pb i) (pc i) (pd i)))∧m≤(64:Nat))) (↑i:Int) (↑m:Int) (M.Gd.mk w ht s v0 v1 d0 d1 r) (M.Sc.mk zk zc zq za zb) (i+(1:Nat)) (0:Nat) (fun i=>M.Pk.mk (pk i) (ps i) (pa i) (pb i) (pc i) (pd i)) (m=m∧∀ (k:Nat),k<m→pk k=pk k∧ps k=ps k∧pa k=pa k∧pb k=pb k∧pc k=pc k∧pd k=pd k) (∀ (k:Nat),k<ns→x k=x k) ((0:Int)=(0:Int))
theorem q90a (w ht s v0 v1 d0 d1 r:Int) (ns:Nat) (x:Nat→Int) (f:Int) (zk zc zq za zb:Int) (m:Nat) (pk ps pa pb pc pd:Nat→Int) (i:Nat):VL true [] [(79,pureE e79)] YS.none Try.f90 0 [0,1,2,3,4,5,6,7,8,10,11,12,13,14,15,16,17,18,19,20,30,39,40,41,48,50] [] 0 (lp90a w ht s v0 v1 d0 d1 r ns x f zk zc zq za zb m pk ps pa pb pc pd) (i)=Rq90a w ht s v0 v1 d0 d1 r ns x f zk zc zq za zb m pk ps pa pb pc pd i:=by kernel_rfl
theorem peq90a (w ht s v0 v1 d0 d1 r:Int) (ns:Nat) (x:Nat→Int) (f:Int) (zk zc zq za zb:Int) (m:Nat) (pk ps pa pb pc pd:Nat→Int) (i:Nat):(lp90a w ht s v0 v1 d0 d1 r ns x f zk zc zq za zb m pk ps pa pb pc pd).pre (i)=(i≤m ∧
 M.Gd.ok (M.Gd.mk w ht s v0 v1 d0 d1 r) ∧
  M.Gd.all (M.Gd.mk w ht s v0 v1 d0 d1 r) ns x ∧
   ns≤(64:Nat) ∧
    M.Gd.Sok (M.Gd.mk w ht s v0 v1 d0 d1 r) (M.Sc.mk zk zc zq za zb) ∧
     (∀ (i:Nat),i<m→M.Pk.Vd ns (M.Pk.mk (pk i) (ps i) (pa i) (pb i) (pc i) (pd i)))∧m≤(64:Nat)):=by kernel_rfl
theorem bq90a (w ht s v0 v1 d0 d1 r:Int) (ns:Nat) (x:Nat→Int) (f:Int) (zk zc zq za zb:Int) (m:Nat) (pk ps pa pb pc pd:Nat→Int) (i:Nat) (hp:i≤m ∧
 M.Gd.ok (M.Gd.mk w ht s v0 v1 d0 d1 r) ∧
  M.Gd.all (M.Gd.mk w ht s v0 v1 d0 d1 r) ns x ∧
   ns≤(64:Nat) ∧
    M.Gd.Sok (M.Gd.mk w ht s v0 v1 d0 d1 r) (M.Sc.mk zk zc zq za zb) ∧
     (∀ (i:Nat),i<m→M.Pk.Vd ns (M.Pk.mk (pk i) (ps i) (pa i) (pb i) (pc i) (pd i)))∧m≤(64:Nat)):Rq90a w ht s v0 v1 d0 d1 r ns x f zk zc zq za zb m pk ps pa pb pc pd i:=by
 unfold Rq90a
 dsimp -iota -proj -eta -zeta only
 obtain ⟨h1,hk,ha,hn,hz,hP,hm⟩:=id hp
 have r1:R64 ((i:Int)+1):=by unfold R64; omega
 have hlen:M.Gd.aln (M.Gd.mk w ht s v0 v1 d0 d1 r) x (M.Sc.mk zk zc zq za zb) (fun i=>M.Pk.mk (pk i) (ps i) (pa i) (pb i) (pc i) (pd i)) i≤i:=M.Gd.alS_len i
 simp only [Int.toNat_natCast,r1]
 by_cases hl:i<m
 ·have hl':(i:Int)<m:=by omega
  have hv:=hP i hl
  by_cases c:M.Gd.alB (M.Gd.mk w ht s v0 v1 d0 d1 r) x (M.Sc.mk zk zc zq za zb) ((fun i=>M.Pk.mk (pk i) (ps i) (pa i) (pb i) (pc i) (pd i)) i)=true
  ·obtain ⟨e1,e2⟩:=M.Gd.al_step (g:=(M.Gd.mk w ht s v0 v1 d0 d1 r)) (x:=x) (s:=(M.Sc.mk zk zc zq za zb)) (P:=(fun i=>M.Pk.mk (pk i) (ps i) (pa i) (pb i) (pc i) (pd i))) c
   simp only [e1]
   generalize M.Gd.aln (M.Gd.mk w ht s v0 v1 d0 d1 r) x (M.Sc.mk zk zc zq za zb) (fun i=>M.Pk.mk (pk i) (ps i) (pa i) (pb i) (pc i) (pd i)) i=na at *
   have e3:∀ k,k<na+1→(bif decide (k<na) then (M.Gd.alR (M.Gd.mk w ht s v0 v1 d0 d1 r) x (M.Sc.mk zk zc zq za zb) (fun i=>M.Pk.mk (pk i) (ps i) (pa i) (pb i) (pc i) (pd i)) i k).1 else M.Gd.alL (M.Gd.mk w ht s v0 v1 d0 d1 r) x (M.Sc.mk zk zc zq za zb) ((fun i=>M.Pk.mk (pk i) (ps i) (pa i) (pb i) (pc i) (pd i)) i))=(M.Gd.alR (M.Gd.mk w ht s v0 v1 d0 d1 r) x (M.Sc.mk zk zc zq za zb) (fun i=>M.Pk.mk (pk i) (ps i) (pa i) (pb i) (pc i) (pd i)) (i+1) k).1∧(bif decide (k<na) then (M.Gd.alR (M.Gd.mk w ht s v0 v1 d0 d1 r) x (M.Sc.mk zk zc zq za zb) (fun i=>M.Pk.mk (pk i) (ps i) (pa i) (pb i) (pc i) (pd i)) i k).2 else M.Gd.alH (M.Gd.mk w ht s v0 v1 d0 d1 r) x (M.Sc.mk zk zc zq za zb) ((fun i=>M.Pk.mk (pk i) (ps i) (pa i) (pb i) (pc i) (pd i)) i))=(M.Gd.alR (M.Gd.mk w ht s v0 v1 d0 d1 r) x (M.Sc.mk zk zc zq za zb) (fun i=>M.Pk.mk (pk i) (ps i) (pa i) (pb i) (pc i) (pd i)) (i+1) k).2:=fun k hk2=>by
    rw [e2 k hk2]
    by_cases d1:k<na <;> simp [d1]
   simp [hl,hl',c,hk,ha,hn,hz,hm,hv]
   repeat' apply And.intro
   all_goals first | omega | exact hP | exact fun k hk2=>by simpa using e3 k hk2
  ·obtain ⟨e1,e2⟩:=M.Gd.al_stay (g:=(M.Gd.mk w ht s v0 v1 d0 d1 r)) (x:=x) (s:=(M.Sc.mk zk zc zq za zb)) (P:=(fun i=>M.Pk.mk (pk i) (ps i) (pa i) (pb i) (pc i) (pd i))) c
   simp only [e1,e2]
   simp [hl,hl',c,hk,ha,hn,hz,hm,hv]
   repeat' apply And.intro
   all_goals first | omega | exact hP
 ·have e:i=m:=by omega
  subst e
  simp
theorem t90a (w ht s v0 v1 d0 d1 r:Int) (ns:Nat) (x:Nat→Int) (f:Int) (zk zc zq za zb:Int) (m:Nat) (pk ps pa pb pc pd:Nat→Int) {F:Fence} (hF:FOK F) (Y:YEnv PP YS.none):∀ Q A H nx,loopT false Try.f90.ntmps 0 (lp90a w ht s v0 v1 d0 d1 r ns x f zk zc zq za zb m pk ps pa pb pc pd) (fun _ _ _=>(0:Nat)) Q A H nx→WPS Y F Try.f90.ntmps 0 (.block 0 (blkAt 0 Try.f90)) Q A H nx :=
 loopW (E:=[]) (.nil) (O:=[(79,pureE e79)]) (.cons (pureE_ok s79) (.nil)) (ck:=true) (L:=[0,1,2,3,4,5,6,7,8,10,11,12,13,14,15,16,17,18,19,20,30,39,40,41,48,50]) (f:=Try.f90) (m:=0) (id:=0) (l:=(lp90a w ht s v0 v1 d0 d1 r ns x f zk zc zq za zb m pk ps pa pb pc pd)) (LI:=fun i=>[]) Y hF (by kernel_rfl) (fun _=>.nil) (by
  rintro i hp
  exact Hold.of (q90a w ht s v0 v1 d0 d1 r ns x f zk zc zq za zb m pk ps pa pb pc pd i) (bq90a w ht s v0 v1 d0 d1 r ns x f zk zc zq za zb m pk ps pa pb pc pd i ((peq90a w ht s v0 v1 d0 d1 r ns x f zk zc zq za zb m pk ps pa pb pc pd i).mp hp)))
def lp90 (w ht s v0 v1 d0 d1 r:Int) (ns:Nat) (x:Nat→Int) (f:Int) (zk zc zq za zb:Int) (m:Nat) (pk ps pa pb pc pd:Nat→Int):RangeS where
 ι:=Unit
 pre _ _:=M.Gd.ok (M.Gd.mk w ht s v0 v1 d0 d1 r)∧M.Gd.all (M.Gd.mk w ht s v0 v1 d0 d1 r) ns x∧ns≤64∧M.Gd.Sok (M.Gd.mk w ht s v0 v1 d0 d1 r) (M.Sc.mk zk zc zq za zb)∧(∀ i,i<m→M.Pk.Vd ns ((fun i=>M.Pk.mk (pk i) (ps i) (pa i) (pb i) (pc i) (pd i)) i))∧m≤64∧0≤f∧f≤8
 cnt _:=(M.stK za zb (M.tuQ za zb (fun k=>(M.Gd.alR (M.Gd.mk w ht s v0 v1 d0 d1 r) x (M.Sc.mk zk zc zq za zb) (fun i=>M.Pk.mk (pk i) (ps i) (pa i) (pb i) (pc i) (pd i)) m k).1) (fun k=>(M.Gd.alR (M.Gd.mk w ht s v0 v1 d0 d1 r) x (M.Sc.mk zk zc zq za zb) (fun i=>M.Pk.mk (pk i) (ps i) (pa i) (pb i) (pc i) (pd i)) m k).2) (M.Gd.aln (M.Gd.mk w ht s v0 v1 d0 d1 r) x (M.Sc.mk zk zc zq za zb) (fun i=>M.Pk.mk (pk i) (ps i) (pa i) (pb i) (pc i) (pd i)) m)) (M.tlen za zb (fun k=>(M.Gd.alR (M.Gd.mk w ht s v0 v1 d0 d1 r) x (M.Sc.mk zk zc zq za zb) (fun i=>M.Pk.mk (pk i) (ps i) (pa i) (pb i) (pc i) (pd i)) m k).1) (fun k=>(M.Gd.alR (M.Gd.mk w ht s v0 v1 d0 d1 r) x (M.Sc.mk zk zc zq za zb) (fun i=>M.Pk.mk (pk i) (ps i) (pa i) (pb i) (pc i) (pd i)) m k).2) (M.Gd.aln (M.Gd.mk w ht s v0 v1 d0 d1 r) x (M.Sc.mk zk zc zq za zb) (fun i=>M.Pk.mk (pk i) (ps i) (pa i) (pb i) (pc i) (pd i)) m)))
 f _ k:=[.agg [SI (M.ysR (M.stY za zb (M.tuQ za zb (fun k=>(M.Gd.alR (M.Gd.mk w ht s v0 v1 d0 d1 r) x (M.Sc.mk zk zc zq za zb) (fun i=>M.Pk.mk (pk i) (ps i) (pa i) (pb i) (pc i) (pd i)) m k).1) (fun k=>(M.Gd.alR (M.Gd.mk w ht s v0 v1 d0 d1 r) x (M.Sc.mk zk zc zq za zb) (fun i=>M.Pk.mk (pk i) (ps i) (pa i) (pb i) (pc i) (pd i)) m k).2) (M.Gd.aln (M.Gd.mk w ht s v0 v1 d0 d1 r) x (M.Sc.mk zk zc zq za zb) (fun i=>M.Pk.mk (pk i) (ps i) (pa i) (pb i) (pc i) (pd i)) m)) (M.tlen za zb (fun k=>(M.Gd.alR (M.Gd.mk w ht s v0 v1 d0 d1 r) x (M.Sc.mk zk zc zq za zb) (fun i=>M.Pk.mk (pk i) (ps i) (pa i) (pb i) (pc i) (pd i)) m k).1) (fun k=>(M.Gd.alR (M.Gd.mk w ht s v0 v1 d0 d1 r) x (M.Sc.mk zk zc zq za zb) (fun i=>M.Pk.mk (pk i) (ps i) (pa i) (pb i) (pc i) (pd i)) m k).2) (M.Gd.aln (M.Gd.mk w ht s v0 v1 d0 d1 r) x (M.Sc.mk zk zc zq za zb) (fun i=>M.Pk.mk (pk i) (ps i) (pa i) (pb i) (pc i) (pd i)) m))) k).1,SI (M.ysR (M.stY za zb (M.tuQ za zb (fun k=>(M.Gd.alR (M.Gd.mk w ht s v0 v1 d0 d1 r) x (M.Sc.mk zk zc zq za zb) (fun i=>M.Pk.mk (pk i) (ps i) (pa i) (pb i) (pc i) (pd i)) m k).1) (fun k=>(M.Gd.alR (M.Gd.mk w ht s v0 v1 d0 d1 r) x (M.Sc.mk zk zc zq za zb) (fun i=>M.Pk.mk (pk i) (ps i) (pa i) (pb i) (pc i) (pd i)) m k).2) (M.Gd.aln (M.Gd.mk w ht s v0 v1 d0 d1 r) x (M.Sc.mk zk zc zq za zb) (fun i=>M.Pk.mk (pk i) (ps i) (pa i) (pb i) (pc i) (pd i)) m)) (M.tlen za zb (fun k=>(M.Gd.alR (M.Gd.mk w ht s v0 v1 d0 d1 r) x (M.Sc.mk zk zc zq za zb) (fun i=>M.Pk.mk (pk i) (ps i) (pa i) (pb i) (pc i) (pd i)) m k).1) (fun k=>(M.Gd.alR (M.Gd.mk w ht s v0 v1 d0 d1 r) x (M.Sc.mk zk zc zq za zb) (fun i=>M.Pk.mk (pk i) (ps i) (pa i) (pb i) (pc i) (pd i)) m k).2) (M.Gd.aln (M.Gd.mk w ht s v0 v1 d0 d1 r) x (M.Sc.mk zk zc zq za zb) (fun i=>M.Pk.mk (pk i) (ps i) (pa i) (pb i) (pc i) (pd i)) m))) k).2.1],SI (M.ysR (M.stY za zb (M.tuQ za zb (fun k=>(M.Gd.alR (M.Gd.mk w ht s v0 v1 d0 d1 r) x (M.Sc.mk zk zc zq za zb) (fun i=>M.Pk.mk (pk i) (ps i) (pa i) (pb i) (pc i) (pd i)) m k).1) (fun k=>(M.Gd.alR (M.Gd.mk w ht s v0 v1 d0 d1 r) x (M.Sc.mk zk zc zq za zb) (fun i=>M.Pk.mk (pk i) (ps i) (pa i) (pb i) (pc i) (pd i)) m k).2) (M.Gd.aln (M.Gd.mk w ht s v0 v1 d0 d1 r) x (M.Sc.mk zk zc zq za zb) (fun i=>M.Pk.mk (pk i) (ps i) (pa i) (pb i) (pc i) (pd i)) m)) (M.tlen za zb (fun k=>(M.Gd.alR (M.Gd.mk w ht s v0 v1 d0 d1 r) x (M.Sc.mk zk zc zq za zb) (fun i=>M.Pk.mk (pk i) (ps i) (pa i) (pb i) (pc i) (pd i)) m k).1) (fun k=>(M.Gd.alR (M.Gd.mk w ht s v0 v1 d0 d1 r) x (M.Sc.mk zk zc zq za zb) (fun i=>M.Pk.mk (pk i) (ps i) (pa i) (pb i) (pc i) (pd i)) m k).2) (M.Gd.aln (M.Gd.mk w ht s v0 v1 d0 d1 r) x (M.Sc.mk zk zc zq za zb) (fun i=>M.Pk.mk (pk i) (ps i) (pa i) (pb i) (pc i) (pd i)) m))) k).2.2]
 SA _:=[(3,.ptr 0 0),(5,.ptr 1 0),(6,.ptr 2 0),(13,.ptr 3 0),(14,.ptr 4 0),(39,.fn 100 [] [.sptr 2 1 (fun _=>[SI za,SI zb]) 0 0,.sptr 1 1 (fun _=>[.sl 2 (M.Gd.aln (M.Gd.mk w ht s v0 v1 d0 d1 r) x (M.Sc.mk zk zc zq za zb) (fun i=>M.Pk.mk (pk i) (ps i) (pa i) (pb i) (pc i) (pd i)) m) (fun k=>[SI (M.Gd.alR (M.Gd.mk w ht s v0 v1 d0 d1 r) x (M.Sc.mk zk zc zq za zb) (fun i=>M.Pk.mk (pk i) (ps i) (pa i) (pb i) (pc i) (pd i)) m k).1,SI (M.Gd.alR (M.Gd.mk w ht s v0 v1 d0 d1 r) x (M.Sc.mk zk zc zq za zb) (fun i=>M.Pk.mk (pk i) (ps i) (pa i) (pb i) (pc i) (pd i)) m k).2])]) 0 0])]
 mf:=5
 n0:=5
 SH _ k:=[(0,.cells [SI w,SI ht,SI s,SI v0,SI v1,SI d0,SI d1,SI r,.sl 1 ns (fun k=>[SI (x k)]),SI f]),(1,.cells [.sl 6 m (fun j=>[SI (pk j),SI (ps j),SI (pa j),SI (pb j),SI (pc j),SI (pd j)])]),(2,.cells [SI 0,SI 0]),(3,.cells [SI (M.lfK ((m:Int)-f) (M.stY za zb (M.tuQ za zb (fun k=>(M.Gd.alR (M.Gd.mk w ht s v0 v1 d0 d1 r) x (M.Sc.mk zk zc zq za zb) (fun i=>M.Pk.mk (pk i) (ps i) (pa i) (pb i) (pc i) (pd i)) m k).1) (fun k=>(M.Gd.alR (M.Gd.mk w ht s v0 v1 d0 d1 r) x (M.Sc.mk zk zc zq za zb) (fun i=>M.Pk.mk (pk i) (ps i) (pa i) (pb i) (pc i) (pd i)) m k).2) (M.Gd.aln (M.Gd.mk w ht s v0 v1 d0 d1 r) x (M.Sc.mk zk zc zq za zb) (fun i=>M.Pk.mk (pk i) (ps i) (pa i) (pb i) (pc i) (pd i)) m)) (M.tlen za zb (fun k=>(M.Gd.alR (M.Gd.mk w ht s v0 v1 d0 d1 r) x (M.Sc.mk zk zc zq za zb) (fun i=>M.Pk.mk (pk i) (ps i) (pa i) (pb i) (pc i) (pd i)) m k).1) (fun k=>(M.Gd.alR (M.Gd.mk w ht s v0 v1 d0 d1 r) x (M.Sc.mk zk zc zq za zb) (fun i=>M.Pk.mk (pk i) (ps i) (pa i) (pb i) (pc i) (pd i)) m k).2) (M.Gd.aln (M.Gd.mk w ht s v0 v1 d0 d1 r) x (M.Sc.mk zk zc zq za zb) (fun i=>M.Pk.mk (pk i) (ps i) (pa i) (pb i) (pc i) (pd i)) m))) k).2.1,SI (M.lfK ((m:Int)-f) (M.stY za zb (M.tuQ za zb (fun k=>(M.Gd.alR (M.Gd.mk w ht s v0 v1 d0 d1 r) x (M.Sc.mk zk zc zq za zb) (fun i=>M.Pk.mk (pk i) (ps i) (pa i) (pb i) (pc i) (pd i)) m k).1) (fun k=>(M.Gd.alR (M.Gd.mk w ht s v0 v1 d0 d1 r) x (M.Sc.mk zk zc zq za zb) (fun i=>M.Pk.mk (pk i) (ps i) (pa i) (pb i) (pc i) (pd i)) m k).2) (M.Gd.aln (M.Gd.mk w ht s v0 v1 d0 d1 r) x (M.Sc.mk zk zc zq za zb) (fun i=>M.Pk.mk (pk i) (ps i) (pa i) (pb i) (pc i) (pd i)) m)) (M.tlen za zb (fun k=>(M.Gd.alR (M.Gd.mk w ht s v0 v1 d0 d1 r) x (M.Sc.mk zk zc zq za zb) (fun i=>M.Pk.mk (pk i) (ps i) (pa i) (pb i) (pc i) (pd i)) m k).1) (fun k=>(M.Gd.alR (M.Gd.mk w ht s v0 v1 d0 d1 r) x (M.Sc.mk zk zc zq za zb) (fun i=>M.Pk.mk (pk i) (ps i) (pa i) (pb i) (pc i) (pd i)) m k).2) (M.Gd.aln (M.Gd.mk w ht s v0 v1 d0 d1 r) x (M.Sc.mk zk zc zq za zb) (fun i=>M.Pk.mk (pk i) (ps i) (pa i) (pb i) (pc i) (pd i)) m))) k).2.2]),(4,.cells [.bool (M.lfK ((m:Int)-f) (M.stY za zb (M.tuQ za zb (fun k=>(M.Gd.alR (M.Gd.mk w ht s v0 v1 d0 d1 r) x (M.Sc.mk zk zc zq za zb) (fun i=>M.Pk.mk (pk i) (ps i) (pa i) (pb i) (pc i) (pd i)) m k).1) (fun k=>(M.Gd.alR (M.Gd.mk w ht s v0 v1 d0 d1 r) x (M.Sc.mk zk zc zq za zb) (fun i=>M.Pk.mk (pk i) (ps i) (pa i) (pb i) (pc i) (pd i)) m k).2) (M.Gd.aln (M.Gd.mk w ht s v0 v1 d0 d1 r) x (M.Sc.mk zk zc zq za zb) (fun i=>M.Pk.mk (pk i) (ps i) (pa i) (pb i) (pc i) (pd i)) m)) (M.tlen za zb (fun k=>(M.Gd.alR (M.Gd.mk w ht s v0 v1 d0 d1 r) x (M.Sc.mk zk zc zq za zb) (fun i=>M.Pk.mk (pk i) (ps i) (pa i) (pb i) (pc i) (pd i)) m k).1) (fun k=>(M.Gd.alR (M.Gd.mk w ht s v0 v1 d0 d1 r) x (M.Sc.mk zk zc zq za zb) (fun i=>M.Pk.mk (pk i) (ps i) (pa i) (pb i) (pc i) (pd i)) m k).2) (M.Gd.aln (M.Gd.mk w ht s v0 v1 d0 d1 r) x (M.Sc.mk zk zc zq za zb) (fun i=>M.Pk.mk (pk i) (ps i) (pa i) (pb i) (pc i) (pd i)) m))) k).1])]
def Rq90 (w ht s v0 v1 d0 d1 r:Int) (ns:Nat) (x:Nat→Int) (f:Int) (zk zc zq za zb:Int) (m:Nat) (pk ps pa pb pc pd:Nat→Int)  (k:Nat):Prop:=(fun (z0:List (Int × Int × Int)) (z1 z3 z5 z6:Prop)=>(fun (z8:Bool) (z2 z4:Bool × Int × Int)=>(fun (z7:Prop)=>R64 ((↑m:Int)-f)∧(z8=true→z1∧w=w∧ht=ht∧s=s∧v0=v0∧v1=v1∧d0=d0∧d1=d1∧r=r∧z5∧f=f∧z3∧z6∧z6∧z4.2.1=z2.2.1∧z4.2.2=z2.2.2∧z4.1=z2.1∧True)∧(z8=false→((!z4.1)=true→z1∧w=w∧ht=ht∧s=s∧v0=v0∧v1=v1∧d0=d0∧d1=d1∧r=r∧z5∧f=f∧z3∧z6∧z6∧(M.ysR z0 k).1=z2.2.1∧z7)∧((!z4.1)=false→z1∧w=w∧ht=ht∧s=s∧v0=v0∧v1=v1∧d0=d0∧d1=d1∧r=r∧z5∧f=f∧z3∧z6∧z6∧z4.2.1=z2.2.1∧z7))) ((M.ysR z0 k).2.1=z2.2.2∧true=z2.1∧True)) (decide ((M.ysR z0 k).2.2<(↑m:Int)-f)) (M.lfK ((↑m:Int)-f) z0 (k+(1:Nat))) (M.lfK ((↑m:Int)-f) z0 k)) (M.stY za zb (M.tuQ za zb (fun k=>(M.Gd.alR (M.Gd.mk w ht s v0 v1 d0 d1 r) x (M.Sc.mk zk zc zq za zb) (fun i=>M.Pk.mk (pk i) (ps i) (pa i) (pb i) (pc i) (pd i)) m k).1) (fun k=>(M.Gd.alR (M.Gd.mk w ht s v0 v1 d0 d1 r) x (M.Sc.mk zk zc zq za zb) (fun i=>M.Pk.mk (pk i) (ps i) (pa i) (pb i) (pc i) (pd i)) m k).2) (M.Gd.aln (M.Gd.mk w ht s v0 v1 d0 d1 r) x (M.Sc.mk zk zc zq za zb) (fun i=>M.Pk.mk (pk i) (ps i) (pa i) (pb i) (pc i) (pd i)) m)) (M.tlen za zb (fun k=>(M.Gd.alR (M.Gd.mk w ht s v0 v1 d0 d1 r) x (M.Sc.mk zk zc zq za zb) (fun i=>M.Pk.mk (pk i) (ps i) (pa i) (pb i) (pc i) (pd i)) m k).1) (fun k=>(M.Gd.alR (M.Gd.mk w ht s v0 v1 d0 d1 r) x (M.Sc.mk zk zc zq za zb) (fun i=>M.Pk.mk (pk i) (ps i) (pa i) (pb i) (pc i) (pd i)) m k).2) (M.Gd.aln (M.Gd.mk w ht s v0 v1 d0 d1 r) x (M.Sc.mk zk zc zq za zb) (fun i=>M.Pk.mk (pk i) (ps i) (pa i) (pb i) (pc i) (pd i)) m))) (M.Gd.ok (M.Gd.mk w ht s v0 v1 d0 d1 r)∧M.Gd.all (M.Gd.mk w ht s v0 v1 d0 d1 r) ns x∧ns≤(64:Nat)∧M.Gd.Sok (M.Gd.mk w ht s v0 v1 d0 d1 r) (M.Sc.mk zk zc zq za zb)∧(∀ (i:Nat),i<m→M.Pk.Vd ns (M.Pk.mk (pk i) (ps i) (pa i) (pb i) (pc i) (pd i)))∧m≤(64:Nat)∧(0:Int)≤f∧f≤(8:Int)) (m=m∧∀ (k:Nat),k<m→pk k=pk k∧ps k=ps k∧pa k=pa k∧pb k=pb k∧pc k=pc k∧pd k=pd k) (ns=ns∧∀ (k:Nat),k<ns→x k=x k) ((0:Int)=(0:Int))
theorem q90 (w ht s v0 v1 d0 d1 r:Int) (ns:Nat) (x:Nat→Int) (f:Int) (zk zc zq za zb:Int) (m:Nat) (pk ps pa pb pc pd:Nat→Int)  (k:Nat):VR true [] [] YS.none Try.f90 [0,1,2,3,4,5,6,7,8,10,11,12,13,14,15,16,17,18,19,20,30,39,40,41,48,50] [] 2 (lp90 w ht s v0 v1 d0 d1 r ns x f zk zc zq za zb m pk ps pa pb pc pd) (()) k=Rq90 w ht s v0 v1 d0 d1 r ns x f zk zc zq za zb m pk ps pa pb pc pd k:=by kernel_rfl
theorem peq90 (w ht s v0 v1 d0 d1 r:Int) (ns:Nat) (x:Nat→Int) (f:Int) (zk zc zq za zb:Int) (m:Nat) (pk ps pa pb pc pd:Nat→Int)  (k:Nat):(lp90 w ht s v0 v1 d0 d1 r ns x f zk zc zq za zb m pk ps pa pb pc pd).pre (()) k=(M.Gd.ok (M.Gd.mk w ht s v0 v1 d0 d1 r) ∧
 M.Gd.all (M.Gd.mk w ht s v0 v1 d0 d1 r) ns x ∧
  ns≤(64:Nat) ∧
   M.Gd.Sok (M.Gd.mk w ht s v0 v1 d0 d1 r) (M.Sc.mk zk zc zq za zb) ∧
    (∀ (i:Nat),i<m→M.Pk.Vd ns (M.Pk.mk (pk i) (ps i) (pa i) (pb i) (pc i) (pd i)))∧m≤(64:Nat)∧(0:Int)≤f∧f≤(8:Int)):=by kernel_rfl
theorem ceq90 (w ht s v0 v1 d0 d1 r:Int) (ns:Nat) (x:Nat→Int) (f:Int) (zk zc zq za zb:Int) (m:Nat) (pk ps pa pb pc pd:Nat→Int)  (k:Nat):(k<(lp90 w ht s v0 v1 d0 d1 r ns x f zk zc zq za zb m pk ps pa pb pc pd).cnt (()))=(k <
 M.stK za zb
  (M.tuQ za zb
   (fun k =>
    (M.Gd.alR (M.Gd.mk w ht s v0 v1 d0 d1 r) x (M.Sc.mk zk zc zq za zb) (fun i=>M.Pk.mk (pk i) (ps i) (pa i) (pb i) (pc i) (pd i)) m k).1)
   (fun k =>
    (M.Gd.alR (M.Gd.mk w ht s v0 v1 d0 d1 r) x (M.Sc.mk zk zc zq za zb) (fun i=>M.Pk.mk (pk i) (ps i) (pa i) (pb i) (pc i) (pd i)) m k).2)
   (M.Gd.aln (M.Gd.mk w ht s v0 v1 d0 d1 r) x (M.Sc.mk zk zc zq za zb) (fun i=>M.Pk.mk (pk i) (ps i) (pa i) (pb i) (pc i) (pd i)) m))
  (M.tlen za zb
   (fun k =>
    (M.Gd.alR (M.Gd.mk w ht s v0 v1 d0 d1 r) x (M.Sc.mk zk zc zq za zb) (fun i=>M.Pk.mk (pk i) (ps i) (pa i) (pb i) (pc i) (pd i)) m k).1)
   (fun k =>
    (M.Gd.alR (M.Gd.mk w ht s v0 v1 d0 d1 r) x (M.Sc.mk zk zc zq za zb) (fun i=>M.Pk.mk (pk i) (ps i) (pa i) (pb i) (pc i) (pd i)) m k).2)
   (M.Gd.aln (M.Gd.mk w ht s v0 v1 d0 d1 r) x (M.Sc.mk zk zc zq za zb) (fun i=>M.Pk.mk (pk i) (ps i) (pa i) (pb i) (pc i) (pd i)) m))):=by kernel_rfl
theorem bq90 (w ht s v0 v1 d0 d1 r:Int) (ns:Nat) (x:Nat→Int) (f:Int) (zk zc zq za zb:Int) (m:Nat) (pk ps pa pb pc pd:Nat→Int)  (k:Nat) (hk:k <
 M.stK za zb
  (M.tuQ za zb
   (fun k =>
    (M.Gd.alR (M.Gd.mk w ht s v0 v1 d0 d1 r) x (M.Sc.mk zk zc zq za zb) (fun i=>M.Pk.mk (pk i) (ps i) (pa i) (pb i) (pc i) (pd i)) m k).1)
   (fun k =>
    (M.Gd.alR (M.Gd.mk w ht s v0 v1 d0 d1 r) x (M.Sc.mk zk zc zq za zb) (fun i=>M.Pk.mk (pk i) (ps i) (pa i) (pb i) (pc i) (pd i)) m k).2)
   (M.Gd.aln (M.Gd.mk w ht s v0 v1 d0 d1 r) x (M.Sc.mk zk zc zq za zb) (fun i=>M.Pk.mk (pk i) (ps i) (pa i) (pb i) (pc i) (pd i)) m))
  (M.tlen za zb
   (fun k =>
    (M.Gd.alR (M.Gd.mk w ht s v0 v1 d0 d1 r) x (M.Sc.mk zk zc zq za zb) (fun i=>M.Pk.mk (pk i) (ps i) (pa i) (pb i) (pc i) (pd i)) m k).1)
   (fun k =>
    (M.Gd.alR (M.Gd.mk w ht s v0 v1 d0 d1 r) x (M.Sc.mk zk zc zq za zb) (fun i=>M.Pk.mk (pk i) (ps i) (pa i) (pb i) (pc i) (pd i)) m k).2)
   (M.Gd.aln (M.Gd.mk w ht s v0 v1 d0 d1 r) x (M.Sc.mk zk zc zq za zb) (fun i=>M.Pk.mk (pk i) (ps i) (pa i) (pb i) (pc i) (pd i)) m))) (hp:M.Gd.ok (M.Gd.mk w ht s v0 v1 d0 d1 r) ∧
 M.Gd.all (M.Gd.mk w ht s v0 v1 d0 d1 r) ns x ∧
  ns≤(64:Nat) ∧
   M.Gd.Sok (M.Gd.mk w ht s v0 v1 d0 d1 r) (M.Sc.mk zk zc zq za zb) ∧
    (∀ (i:Nat),i<m→M.Pk.Vd ns (M.Pk.mk (pk i) (ps i) (pa i) (pb i) (pc i) (pd i)))∧m≤(64:Nat)∧(0:Int)≤f∧f≤(8:Int)):Rq90 w ht s v0 v1 d0 d1 r ns x f zk zc zq za zb m pk ps pa pb pc pd k:=by
 unfold Rq90
 dsimp -iota -proj -eta -zeta only
 obtain ⟨hkk,ha,hn,hz,hP,hm,f1,f2⟩:=id hp
 have r1:R64 ((m:Int)-f):=by unfold R64; omega
 have e:=M.lfK_succ (thr:=(m:Int)-f) (L:=(M.stY za zb (M.tuQ za zb (fun k=>(M.Gd.alR (M.Gd.mk w ht s v0 v1 d0 d1 r) x (M.Sc.mk zk zc zq za zb) (fun i=>M.Pk.mk (pk i) (ps i) (pa i) (pb i) (pc i) (pd i)) m k).1) (fun k=>(M.Gd.alR (M.Gd.mk w ht s v0 v1 d0 d1 r) x (M.Sc.mk zk zc zq za zb) (fun i=>M.Pk.mk (pk i) (ps i) (pa i) (pb i) (pc i) (pd i)) m k).2) (M.Gd.aln (M.Gd.mk w ht s v0 v1 d0 d1 r) x (M.Sc.mk zk zc zq za zb) (fun i=>M.Pk.mk (pk i) (ps i) (pa i) (pb i) (pc i) (pd i)) m)) (M.tlen za zb (fun k=>(M.Gd.alR (M.Gd.mk w ht s v0 v1 d0 d1 r) x (M.Sc.mk zk zc zq za zb) (fun i=>M.Pk.mk (pk i) (ps i) (pa i) (pb i) (pc i) (pd i)) m k).1) (fun k=>(M.Gd.alR (M.Gd.mk w ht s v0 v1 d0 d1 r) x (M.Sc.mk zk zc zq za zb) (fun i=>M.Pk.mk (pk i) (ps i) (pa i) (pb i) (pc i) (pd i)) m k).2) (M.Gd.aln (M.Gd.mk w ht s v0 v1 d0 d1 r) x (M.Sc.mk zk zc zq za zb) (fun i=>M.Pk.mk (pk i) (ps i) (pa i) (pb i) (pc i) (pd i)) m)))) (k:=k) hk
 simp only [e,r1]
 unfold M.lfOne
 generalize M.ysR (M.stY za zb (M.tuQ za zb (fun k=>(M.Gd.alR (M.Gd.mk w ht s v0 v1 d0 d1 r) x (M.Sc.mk zk zc zq za zb) (fun i=>M.Pk.mk (pk i) (ps i) (pa i) (pb i) (pc i) (pd i)) m k).1) (fun k=>(M.Gd.alR (M.Gd.mk w ht s v0 v1 d0 d1 r) x (M.Sc.mk zk zc zq za zb) (fun i=>M.Pk.mk (pk i) (ps i) (pa i) (pb i) (pc i) (pd i)) m k).2) (M.Gd.aln (M.Gd.mk w ht s v0 v1 d0 d1 r) x (M.Sc.mk zk zc zq za zb) (fun i=>M.Pk.mk (pk i) (ps i) (pa i) (pb i) (pc i) (pd i)) m)) (M.tlen za zb (fun k=>(M.Gd.alR (M.Gd.mk w ht s v0 v1 d0 d1 r) x (M.Sc.mk zk zc zq za zb) (fun i=>M.Pk.mk (pk i) (ps i) (pa i) (pb i) (pc i) (pd i)) m k).1) (fun k=>(M.Gd.alR (M.Gd.mk w ht s v0 v1 d0 d1 r) x (M.Sc.mk zk zc zq za zb) (fun i=>M.Pk.mk (pk i) (ps i) (pa i) (pb i) (pc i) (pd i)) m k).2) (M.Gd.aln (M.Gd.mk w ht s v0 v1 d0 d1 r) x (M.Sc.mk zk zc zq za zb) (fun i=>M.Pk.mk (pk i) (ps i) (pa i) (pb i) (pc i) (pd i)) m))) k=z at *
 generalize M.lfK ((m:Int)-f) (M.stY za zb (M.tuQ za zb (fun k=>(M.Gd.alR (M.Gd.mk w ht s v0 v1 d0 d1 r) x (M.Sc.mk zk zc zq za zb) (fun i=>M.Pk.mk (pk i) (ps i) (pa i) (pb i) (pc i) (pd i)) m k).1) (fun k=>(M.Gd.alR (M.Gd.mk w ht s v0 v1 d0 d1 r) x (M.Sc.mk zk zc zq za zb) (fun i=>M.Pk.mk (pk i) (ps i) (pa i) (pb i) (pc i) (pd i)) m k).2) (M.Gd.aln (M.Gd.mk w ht s v0 v1 d0 d1 r) x (M.Sc.mk zk zc zq za zb) (fun i=>M.Pk.mk (pk i) (ps i) (pa i) (pb i) (pc i) (pd i)) m)) (M.tlen za zb (fun k=>(M.Gd.alR (M.Gd.mk w ht s v0 v1 d0 d1 r) x (M.Sc.mk zk zc zq za zb) (fun i=>M.Pk.mk (pk i) (ps i) (pa i) (pb i) (pc i) (pd i)) m k).1) (fun k=>(M.Gd.alR (M.Gd.mk w ht s v0 v1 d0 d1 r) x (M.Sc.mk zk zc zq za zb) (fun i=>M.Pk.mk (pk i) (ps i) (pa i) (pb i) (pc i) (pd i)) m k).2) (M.Gd.aln (M.Gd.mk w ht s v0 v1 d0 d1 r) x (M.Sc.mk zk zc zq za zb) (fun i=>M.Pk.mk (pk i) (ps i) (pa i) (pb i) (pc i) (pd i)) m))) k=u at *
 by_cases c:z.2.2<(m:Int)-f
 ·simp [c,hkk,ha,hn,hz,hm,f1,f2]
  repeat' apply And.intro
  all_goals first | exact hP | omega
 ·by_cases c2:u.1=true
  ·simp [c,c2,hkk,ha,hn,hz,hm,f1,f2]
   repeat' apply And.intro
   all_goals first | exact hP | omega
  ·simp [c,c2,hkk,ha,hn,hz,hm,f1,f2]
   repeat' apply And.intro
   all_goals first | exact hP | omega
theorem t90 (w ht s v0 v1 d0 d1 r:Int) (ns:Nat) (x:Nat→Int) (f:Int) (zk zc zq za zb:Int) (m:Nat) (pk ps pa pb pc pd:Nat→Int) {F:Fence} (hF:FOK F) (hr:F.round=none) (Y:YEnv PP YS.none):∀ Q A H nx,rangeT false Try.f90.ntmps 0 (rfFn (blkAt 2 Try.f90)) 100 j100 (lp90 w ht s v0 v1 d0 d1 r ns x f zk zc zq za zb m pk ps pa pb pc pd) (fun _ _ _=>()) Q A H nx→WPS Y F Try.f90.ntmps 0 (.block 2 (blkAt 2 Try.f90)) Q A H nx :=
 rangeW (E:=[]) (.nil) (O:=[]) (.nil) (ck:=true) (L:=[0,1,2,3,4,5,6,7,8,10,11,12,13,14,15,16,17,18,19,20,30,39,40,41,48,50]) (f:=Try.f90) (m:=0) (id:=2) (l:=(lp90 w ht s v0 v1 d0 d1 r ns x f zk zc zq za zb m pk ps pa pb pc pd)) (LI:=[]) Y hF hr i100 (by kernel_rfl) (fun _ _=>by kernel_rfl) (by kernel_rfl) (fun _=>.nil) (fun _=>.nil) (by
  rintro ⟨⟩ k hk hp
  exact Hold.of (q90 w ht s v0 v1 d0 d1 r ns x f zk zc zq za zb m pk ps pa pb pc pd k) (bq90 w ht s v0 v1 d0 d1 r ns x f zk zc zq za zb m pk ps pa pb pc pd k ((ceq90 w ht s v0 v1 d0 d1 r ns x f zk zc zq za zb m pk ps pa pb pc pd k).mp hk) ((peq90 w ht s v0 v1 d0 d1 r ns x f zk zc zq za zb m pk ps pa pb pc pd k).mp hp)))
def e90:List SV→Option (List Prop × SV)
 | [.agg [.int .i64 w,.int .i64 ht,.int .i64 s,.int .i64 v0,.int .i64 v1,.int .i64 d0,.int .i64 d1,.int .i64 r,.sl 1 ns g_1,.int .i64 f],.agg [.int .i64 zk,.int .i64 zc,.int .i64 zq,.int .i64 za,.int .i64 zb],.sl 6 m g_2]=>some ([Row 1 ns g_1,Row 6 m g_2,M.Gd.ok (M.Gd.mk w ht s v0 v1 d0 d1 r),M.Gd.all (M.Gd.mk w ht s v0 v1 d0 d1 r) ns (cI g_1 0),ns≤64,M.Gd.Sok (M.Gd.mk w ht s v0 v1 d0 d1 r) (M.Sc.mk zk zc zq za zb),(∀ i,i<m→M.Pk.Vd ns ((fun i=>M.Pk.mk ((cI g_2 0) i) ((cI g_2 1) i) ((cI g_2 2) i) ((cI g_2 3) i) ((cI g_2 4) i) ((cI g_2 5) i)) i)),m≤64,0≤f,f≤8],.tup [.agg [SI ((M.Gd.lft (M.Gd.mk w ht s v0 v1 d0 d1 r) (cI g_1 0) (M.Sc.mk zk zc zq za zb) m (fun i=>M.Pk.mk ((cI g_2 0) i) ((cI g_2 1) i) ((cI g_2 2) i) ((cI g_2 3) i) ((cI g_2 4) i) ((cI g_2 5) i)) f).2.1),SI ((M.Gd.lft (M.Gd.mk w ht s v0 v1 d0 d1 r) (cI g_1 0) (M.Sc.mk zk zc zq za zb) m (fun i=>M.Pk.mk ((cI g_2 0) i) ((cI g_2 1) i) ((cI g_2 2) i) ((cI g_2 3) i) ((cI g_2 4) i) ((cI g_2 5) i)) f).2.2)],.bool ((M.Gd.lft (M.Gd.mk w ht s v0 v1 d0 d1 r) (cI g_1 0) (M.Sc.mk zk zc zq za zb) m (fun i=>M.Pk.mk ((cI g_2 0) i) ((cI g_2 1) i) ((cI g_2 2) i) ((cI g_2 3) i) ((cI g_2 4) i) ((cI g_2 5) i)) f).1)])
 | _=>none
def Rr90 (w ht s v0 v1 d0 d1 r:Int) (ns:Nat) (x:Nat→Int) (f:Int) (zk zc zq za zb:Int) (m:Nat) (pk ps pa pb pc pd:Nat→Int):Prop:=(fun (z11:M.Gd) (z10 z14:Nat) (z2:Nat→List SV) (z7 z9 z13:Prop)=>(fun (z6:Bool × Int × Int) (z1:Nat) (z0:Nat→Int × Int) (z3 z8:Prop)=>(fun (z4:Nat)=>(fun (z5:Bool × Int × Int) (z12:Prop)=>(z10≤m∧M.Gd.ok z11∧M.Gd.all z11 ns x∧ns≤(64:Nat)∧M.Gd.Sok z11 (M.Sc.mk zk zc zq za zb)∧(∀ (i:Nat),i<m→M.Pk.Vd ns (M.Pk.mk (pk i) (ps i) (pa i) (pb i) (pc i) (pd i)))∧m≤(64:Nat))∧(z8∧z7∧(↑m:Int)=(↑m:Int)∧(0:Int)=(↑z10:Int)∧w=w∧ht=ht∧s=s∧v0=v0∧v1=v1∧d0=d0∧d1=d1∧r=r∧z13∧f=f∧zk=zk∧zc=zc∧zq=zq∧za=za∧zb=zb∧z7∧z9∧z9∧z8∧True)∧(false=false→z10+z1≤z1∧(∀ (k:Nat),k<z1→(z0 (z10+k)).1=cI z2 z10 k∧(z0 (z10+k)).2=cI z2 (z10+z14) k)∧z3∧(z14=z14∧z10=z10∧(∀ (q:Nat),q<z14→za=za∧zb=zb)∧z14=z14∧z10=z10∧(∀ (q:Nat),q<z14→z1=z1∧∀ (k:Nat),k<z1→cI z2 z10 k=(z0 k).1∧cI z2 z14 k=(z0 k).2)∧w=w∧ht=ht∧s=s∧v0=v0∧v1=v1∧d0=d0∧d1=d1∧r=r∧z13∧f=f∧z7∧z9∧z9∧z9∧z9∧false=false∧True)∧((∀ (k:Nat),k<z1→(z0 k).1=(z0 k).1∧(z0 k).2=(z0 k).2)∧(0:Int)≤za∧za≤zb∧zb≤(1000000000:Int)∧z1≤(64:Nat)∧z4=z4∧∀ (k:Nat),k<z4→[SV.agg [SV.int IntKind.i64 (M.ysR (M.stY za zb (M.tuQ za zb (fun k=>(M.Gd.alR (M.Gd.mk w ht s v0 v1 d0 d1 r) x (M.Sc.mk zk zc zq za zb) (fun i=>M.Pk.mk (pk i) (ps i) (pa i) (pb i) (pc i) (pd i)) m k).1) (fun k=>(M.Gd.alR (M.Gd.mk w ht s v0 v1 d0 d1 r) x (M.Sc.mk zk zc zq za zb) (fun i=>M.Pk.mk (pk i) (ps i) (pa i) (pb i) (pc i) (pd i)) m k).2) (M.Gd.aln (M.Gd.mk w ht s v0 v1 d0 d1 r) x (M.Sc.mk zk zc zq za zb) (fun i=>M.Pk.mk (pk i) (ps i) (pa i) (pb i) (pc i) (pd i)) m)) (M.tlen za zb (fun k=>(M.Gd.alR (M.Gd.mk w ht s v0 v1 d0 d1 r) x (M.Sc.mk zk zc zq za zb) (fun i=>M.Pk.mk (pk i) (ps i) (pa i) (pb i) (pc i) (pd i)) m k).1) (fun k=>(M.Gd.alR (M.Gd.mk w ht s v0 v1 d0 d1 r) x (M.Sc.mk zk zc zq za zb) (fun i=>M.Pk.mk (pk i) (ps i) (pa i) (pb i) (pc i) (pd i)) m k).2) (M.Gd.aln (M.Gd.mk w ht s v0 v1 d0 d1 r) x (M.Sc.mk zk zc zq za zb) (fun i=>M.Pk.mk (pk i) (ps i) (pa i) (pb i) (pc i) (pd i)) m))) k).1,SV.int IntKind.i64 (M.ysR (M.stY za zb (M.tuQ za zb (fun k=>(M.Gd.alR (M.Gd.mk w ht s v0 v1 d0 d1 r) x (M.Sc.mk zk zc zq za zb) (fun i=>M.Pk.mk (pk i) (ps i) (pa i) (pb i) (pc i) (pd i)) m k).1) (fun k=>(M.Gd.alR (M.Gd.mk w ht s v0 v1 d0 d1 r) x (M.Sc.mk zk zc zq za zb) (fun i=>M.Pk.mk (pk i) (ps i) (pa i) (pb i) (pc i) (pd i)) m k).2) (M.Gd.aln (M.Gd.mk w ht s v0 v1 d0 d1 r) x (M.Sc.mk zk zc zq za zb) (fun i=>M.Pk.mk (pk i) (ps i) (pa i) (pb i) (pc i) (pd i)) m)) (M.tlen za zb (fun k=>(M.Gd.alR (M.Gd.mk w ht s v0 v1 d0 d1 r) x (M.Sc.mk zk zc zq za zb) (fun i=>M.Pk.mk (pk i) (ps i) (pa i) (pb i) (pc i) (pd i)) m k).1) (fun k=>(M.Gd.alR (M.Gd.mk w ht s v0 v1 d0 d1 r) x (M.Sc.mk zk zc zq za zb) (fun i=>M.Pk.mk (pk i) (ps i) (pa i) (pb i) (pc i) (pd i)) m k).2) (M.Gd.aln (M.Gd.mk w ht s v0 v1 d0 d1 r) x (M.Sc.mk zk zc zq za zb) (fun i=>M.Pk.mk (pk i) (ps i) (pa i) (pb i) (pc i) (pd i)) m))) k).2.1],SV.int IntKind.i64 (M.ysR (M.stY za zb (M.tuQ za zb (fun k=>(M.Gd.alR (M.Gd.mk w ht s v0 v1 d0 d1 r) x (M.Sc.mk zk zc zq za zb) (fun i=>M.Pk.mk (pk i) (ps i) (pa i) (pb i) (pc i) (pd i)) m k).1) (fun k=>(M.Gd.alR (M.Gd.mk w ht s v0 v1 d0 d1 r) x (M.Sc.mk zk zc zq za zb) (fun i=>M.Pk.mk (pk i) (ps i) (pa i) (pb i) (pc i) (pd i)) m k).2) (M.Gd.aln (M.Gd.mk w ht s v0 v1 d0 d1 r) x (M.Sc.mk zk zc zq za zb) (fun i=>M.Pk.mk (pk i) (ps i) (pa i) (pb i) (pc i) (pd i)) m)) (M.tlen za zb (fun k=>(M.Gd.alR (M.Gd.mk w ht s v0 v1 d0 d1 r) x (M.Sc.mk zk zc zq za zb) (fun i=>M.Pk.mk (pk i) (ps i) (pa i) (pb i) (pc i) (pd i)) m k).1) (fun k=>(M.Gd.alR (M.Gd.mk w ht s v0 v1 d0 d1 r) x (M.Sc.mk zk zc zq za zb) (fun i=>M.Pk.mk (pk i) (ps i) (pa i) (pb i) (pc i) (pd i)) m k).2) (M.Gd.aln (M.Gd.mk w ht s v0 v1 d0 d1 r) x (M.Sc.mk zk zc zq za zb) (fun i=>M.Pk.mk (pk i) (ps i) (pa i) (pb i) (pc i) (pd i)) m))) k).2.2]=[SV.agg [SV.int IntKind.i64 (M.ysR (M.stY za zb (M.tuQ za zb (fun k=>(M.Gd.alR (M.Gd.mk w ht s v0 v1 d0 d1 r) x (M.Sc.mk zk zc zq za zb) (fun i=>M.Pk.mk (pk i) (ps i) (pa i) (pb i) (pc i) (pd i)) m k).1) (fun k=>(M.Gd.alR (M.Gd.mk w ht s v0 v1 d0 d1 r) x (M.Sc.mk zk zc zq za zb) (fun i=>M.Pk.mk (pk i) (ps i) (pa i) (pb i) (pc i) (pd i)) m k).2) (M.Gd.aln (M.Gd.mk w ht s v0 v1 d0 d1 r) x (M.Sc.mk zk zc zq za zb) (fun i=>M.Pk.mk (pk i) (ps i) (pa i) (pb i) (pc i) (pd i)) m)) (M.tlen za zb (fun k=>(M.Gd.alR (M.Gd.mk w ht s v0 v1 d0 d1 r) x (M.Sc.mk zk zc zq za zb) (fun i=>M.Pk.mk (pk i) (ps i) (pa i) (pb i) (pc i) (pd i)) m k).1) (fun k=>(M.Gd.alR (M.Gd.mk w ht s v0 v1 d0 d1 r) x (M.Sc.mk zk zc zq za zb) (fun i=>M.Pk.mk (pk i) (ps i) (pa i) (pb i) (pc i) (pd i)) m k).2) (M.Gd.aln (M.Gd.mk w ht s v0 v1 d0 d1 r) x (M.Sc.mk zk zc zq za zb) (fun i=>M.Pk.mk (pk i) (ps i) (pa i) (pb i) (pc i) (pd i)) m))) k).1,SV.int IntKind.i64 (M.ysR (M.stY za zb (M.tuQ za zb (fun k=>(M.Gd.alR (M.Gd.mk w ht s v0 v1 d0 d1 r) x (M.Sc.mk zk zc zq za zb) (fun i=>M.Pk.mk (pk i) (ps i) (pa i) (pb i) (pc i) (pd i)) m k).1) (fun k=>(M.Gd.alR (M.Gd.mk w ht s v0 v1 d0 d1 r) x (M.Sc.mk zk zc zq za zb) (fun i=>M.Pk.mk (pk i) (ps i) (pa i) (pb i) (pc i) (pd i)) m k).2) (M.Gd.aln (M.Gd.mk w ht s v0 v1 d0 d1 r) x (M.Sc.mk zk zc zq za zb) (fun i=>M.Pk.mk (pk i) (ps i) (pa i) (pb i) (pc i) (pd i)) m)) (M.tlen za zb (fun k=>(M.Gd.alR (M.Gd.mk w ht s v0 v1 d0 d1 r) x (M.Sc.mk zk zc zq za zb) (fun i=>M.Pk.mk (pk i) (ps i) (pa i) (pb i) (pc i) (pd i)) m k).1) (fun k=>(M.Gd.alR (M.Gd.mk w ht s v0 v1 d0 d1 r) x (M.Sc.mk zk zc zq za zb) (fun i=>M.Pk.mk (pk i) (ps i) (pa i) (pb i) (pc i) (pd i)) m k).2) (M.Gd.aln (M.Gd.mk w ht s v0 v1 d0 d1 r) x (M.Sc.mk zk zc zq za zb) (fun i=>M.Pk.mk (pk i) (ps i) (pa i) (pb i) (pc i) (pd i)) m))) k).2.1],SV.int IntKind.i64 (M.ysR (M.stY za zb (M.tuQ za zb (fun k=>(M.Gd.alR (M.Gd.mk w ht s v0 v1 d0 d1 r) x (M.Sc.mk zk zc zq za zb) (fun i=>M.Pk.mk (pk i) (ps i) (pa i) (pb i) (pc i) (pd i)) m k).1) (fun k=>(M.Gd.alR (M.Gd.mk w ht s v0 v1 d0 d1 r) x (M.Sc.mk zk zc zq za zb) (fun i=>M.Pk.mk (pk i) (ps i) (pa i) (pb i) (pc i) (pd i)) m k).2) (M.Gd.aln (M.Gd.mk w ht s v0 v1 d0 d1 r) x (M.Sc.mk zk zc zq za zb) (fun i=>M.Pk.mk (pk i) (ps i) (pa i) (pb i) (pc i) (pd i)) m)) (M.tlen za zb (fun k=>(M.Gd.alR (M.Gd.mk w ht s v0 v1 d0 d1 r) x (M.Sc.mk zk zc zq za zb) (fun i=>M.Pk.mk (pk i) (ps i) (pa i) (pb i) (pc i) (pd i)) m k).1) (fun k=>(M.Gd.alR (M.Gd.mk w ht s v0 v1 d0 d1 r) x (M.Sc.mk zk zc zq za zb) (fun i=>M.Pk.mk (pk i) (ps i) (pa i) (pb i) (pc i) (pd i)) m k).2) (M.Gd.aln (M.Gd.mk w ht s v0 v1 d0 d1 r) x (M.Sc.mk zk zc zq za zb) (fun i=>M.Pk.mk (pk i) (ps i) (pa i) (pb i) (pc i) (pd i)) m))) k).2.2])∧(z3→(z5.2.1=z6.2.1∧z5.2.2=z6.2.2)∧z5.1=z6.1)∧z12∧z12)∧(false=true→False)) (M.lfK ((↑m:Int)-f) (M.stY za zb (M.tuQ za zb (fun k=>(z0 k).1) (fun k=>(z0 k).2) z1) (M.tlen za zb (fun k=>(z0 k).1) (fun k=>(z0 k).2) z1)) z4) (∀ (k:Nat),k<z4→z3→False→True→False)) (M.stK za zb (M.tuQ za zb (fun k=>(z0 k).1) (fun k=>(z0 k).2) z1) (M.tlen za zb (fun k=>(z0 k).1) (fun k=>(z0 k).2) z1))) (M.Gd.lft z11 x (M.Sc.mk zk zc zq za zb) m (fun i=>M.Pk.mk (pk i) (ps i) (pa i) (pb i) (pc i) (pd i)) f) (M.Gd.aln z11 x (M.Sc.mk zk zc zq za zb) (fun i=>M.Pk.mk (pk i) (ps i) (pa i) (pb i) (pc i) (pd i)) m) (M.Gd.alR z11 x (M.Sc.mk zk zc zq za zb) (fun i=>M.Pk.mk (pk i) (ps i) (pa i) (pb i) (pc i) (pd i)) m) (M.Gd.ok z11∧M.Gd.all z11 ns x∧ns≤(64:Nat)∧M.Gd.Sok z11 (M.Sc.mk zk zc zq za zb)∧(∀ (i:Nat),i<m→M.Pk.Vd ns (M.Pk.mk (pk i) (ps i) (pa i) (pb i) (pc i) (pd i)))∧m≤(64:Nat)∧(0:Int)≤f∧f≤(8:Int)) (M.Gd.aln z11 x (M.Sc.mk zk zc zq za zb) (fun i=>M.Pk.mk (pk i) (ps i) (pa i) (pb i) (pc i) (pd i)) z10=z10)) (M.Gd.mk w ht s v0 v1 d0 d1 r) (0:Nat) (1:Nat) (fun k=>[SV.int IntKind.i64 (M.Gd.alR (M.Gd.mk w ht s v0 v1 d0 d1 r) x (M.Sc.mk zk zc zq za zb) (fun i=>M.Pk.mk (pk i) (ps i) (pa i) (pb i) (pc i) (pd i)) m ((0:Nat)+k)).1,SV.int IntKind.i64 (M.Gd.alR (M.Gd.mk w ht s v0 v1 d0 d1 r) x (M.Sc.mk zk zc zq za zb) (fun i=>M.Pk.mk (pk i) (ps i) (pa i) (pb i) (pc i) (pd i)) m ((0:Nat)+k)).2]) (m=m∧∀ (k:Nat),k<m→pk k=pk k∧ps k=ps k∧pa k=pa k∧pb k=pb k∧pc k=pc k∧pd k=pd k) ((0:Int)=(0:Int)) (ns=ns∧∀ (k:Nat),k<ns→x k=x k)
theorem r90 (w ht s v0 v1 d0 d1 r:Int) (ns:Nat) (x:Nat→Int) (f:Int) (zk zc zq za zb:Int) (m:Nat) (pk ps pa pb pc pd:Nat→Int):V true [] [(80,pureE e80)] Try.f90 [0,1,2,3,4,5,6,7,8,10,11,12,13,14,15,16,17,18,19,20,30,39,40,41,48,50] [(0,loopT false Try.f90.ntmps 0 (lp90a w ht s v0 v1 d0 d1 r ns x f zk zc zq za zb m pk ps pa pb pc pd) (fun _ _ _=>(0:Nat))),(2,rangeT false Try.f90.ntmps 0 (rfFn (blkAt 2 Try.f90)) 100 j100 (lp90 w ht s v0 v1 d0 d1 r ns x f zk zc zq za zb m pk ps pa pb pc pd) (fun _ _ _=>()))] [.agg [SI w,SI ht,SI s,SI v0,SI v1,SI d0,SI d1,SI r,.sl 1 ns (fun k=>[SI (x k)]),SI f],.agg [SI zk,SI zc,SI zq,SI za,SI zb],.sl 6 m (fun k=>[SI (pk k),SI (ps k),SI (pa k),SI (pb k),SI (pc k),SI (pd k)])] (.tup [.agg [SI ((M.Gd.lft (M.Gd.mk w ht s v0 v1 d0 d1 r) x (M.Sc.mk zk zc zq za zb) m (fun i=>M.Pk.mk (pk i) (ps i) (pa i) (pb i) (pc i) (pd i)) f).2.1),SI ((M.Gd.lft (M.Gd.mk w ht s v0 v1 d0 d1 r) x (M.Sc.mk zk zc zq za zb) m (fun i=>M.Pk.mk (pk i) (ps i) (pa i) (pb i) (pc i) (pd i)) f).2.2)],.bool ((M.Gd.lft (M.Gd.mk w ht s v0 v1 d0 d1 r) x (M.Sc.mk zk zc zq za zb) m (fun i=>M.Pk.mk (pk i) (ps i) (pa i) (pb i) (pc i) (pd i)) f).1)])=Rr90 w ht s v0 v1 d0 d1 r ns x f zk zc zq za zb m pk ps pa pb pc pd:=by kernel_rfl
theorem br90 (w ht s v0 v1 d0 d1 r:Int) (ns:Nat) (x:Nat→Int) (f:Int) (zk zc zq za zb:Int) (m:Nat) (pk ps pa pb pc pd:Nat→Int) (hp:(M.Gd.ok (M.Gd.mk w ht s v0 v1 d0 d1 r))∧(M.Gd.all (M.Gd.mk w ht s v0 v1 d0 d1 r) ns x)∧(ns≤64)∧(M.Gd.Sok (M.Gd.mk w ht s v0 v1 d0 d1 r) (M.Sc.mk zk zc zq za zb))∧((∀ i,i<m→M.Pk.Vd ns ((fun i=>M.Pk.mk (pk i) (ps i) (pa i) (pb i) (pc i) (pd i)) i)))∧(m≤64)∧(0≤f)∧(f≤8)∧AllP []):Rr90 w ht s v0 v1 d0 d1 r ns x f zk zc zq za zb m pk ps pa pb pc pd:=by
 unfold Rr90
 dsimp -iota -proj -eta -zeta only
 obtain ⟨hk,ha,hn,hz,hP,hm,f1,f2,-⟩:=id hp
 obtain ⟨z1,z2,z3,z4,z5,z6⟩:=id hz
 simp only at z1 z2 z3 z4 z5 z6
 have hle:=M.left_eq (g:=(M.Gd.mk w ht s v0 v1 d0 d1 r)) (x:=x) (s:=(M.Sc.mk zk zc zq za zb)) (m:=m) (P:=(fun i=>M.Pk.mk (pk i) (ps i) (pa i) (pb i) (pc i) (pd i))) (f:=f) hk ha z2 hP z5 (by simp only; omega) (by simp only; omega) (M.tuQ_cov z5)
 rw [← M.lfK_len] at hle
 have hle:M.lfK ((m:Int)-f) (M.stY za zb (M.tuQ za zb (fun k=>(M.Gd.alR (M.Gd.mk w ht s v0 v1 d0 d1 r) x (M.Sc.mk zk zc zq za zb) (fun i=>M.Pk.mk (pk i) (ps i) (pa i) (pb i) (pc i) (pd i)) m k).1) (fun k=>(M.Gd.alR (M.Gd.mk w ht s v0 v1 d0 d1 r) x (M.Sc.mk zk zc zq za zb) (fun i=>M.Pk.mk (pk i) (ps i) (pa i) (pb i) (pc i) (pd i)) m k).2) (M.Gd.aln (M.Gd.mk w ht s v0 v1 d0 d1 r) x (M.Sc.mk zk zc zq za zb) (fun i=>M.Pk.mk (pk i) (ps i) (pa i) (pb i) (pc i) (pd i)) m)) (M.tlen za zb (fun k=>(M.Gd.alR (M.Gd.mk w ht s v0 v1 d0 d1 r) x (M.Sc.mk zk zc zq za zb) (fun i=>M.Pk.mk (pk i) (ps i) (pa i) (pb i) (pc i) (pd i)) m k).1) (fun k=>(M.Gd.alR (M.Gd.mk w ht s v0 v1 d0 d1 r) x (M.Sc.mk zk zc zq za zb) (fun i=>M.Pk.mk (pk i) (ps i) (pa i) (pb i) (pc i) (pd i)) m k).2) (M.Gd.aln (M.Gd.mk w ht s v0 v1 d0 d1 r) x (M.Sc.mk zk zc zq za zb) (fun i=>M.Pk.mk (pk i) (ps i) (pa i) (pb i) (pc i) (pd i)) m))) (M.stK za zb (M.tuQ za zb (fun k=>(M.Gd.alR (M.Gd.mk w ht s v0 v1 d0 d1 r) x (M.Sc.mk zk zc zq za zb) (fun i=>M.Pk.mk (pk i) (ps i) (pa i) (pb i) (pc i) (pd i)) m k).1) (fun k=>(M.Gd.alR (M.Gd.mk w ht s v0 v1 d0 d1 r) x (M.Sc.mk zk zc zq za zb) (fun i=>M.Pk.mk (pk i) (ps i) (pa i) (pb i) (pc i) (pd i)) m k).2) (M.Gd.aln (M.Gd.mk w ht s v0 v1 d0 d1 r) x (M.Sc.mk zk zc zq za zb) (fun i=>M.Pk.mk (pk i) (ps i) (pa i) (pb i) (pc i) (pd i)) m)) (M.tlen za zb (fun k=>(M.Gd.alR (M.Gd.mk w ht s v0 v1 d0 d1 r) x (M.Sc.mk zk zc zq za zb) (fun i=>M.Pk.mk (pk i) (ps i) (pa i) (pb i) (pc i) (pd i)) m k).1) (fun k=>(M.Gd.alR (M.Gd.mk w ht s v0 v1 d0 d1 r) x (M.Sc.mk zk zc zq za zb) (fun i=>M.Pk.mk (pk i) (ps i) (pa i) (pb i) (pc i) (pd i)) m k).2) (M.Gd.aln (M.Gd.mk w ht s v0 v1 d0 d1 r) x (M.Sc.mk zk zc zq za zb) (fun i=>M.Pk.mk (pk i) (ps i) (pa i) (pb i) (pc i) (pd i)) m)))=(M.Gd.lft (M.Gd.mk w ht s v0 v1 d0 d1 r) x (M.Sc.mk zk zc zq za zb) m (fun i=>M.Pk.mk (pk i) (ps i) (pa i) (pb i) (pc i) (pd i)) f):=hle
 have e0:M.lfK ((m:Int)-f) (M.stY za zb (M.tuQ za zb (fun k=>(M.Gd.alR (M.Gd.mk w ht s v0 v1 d0 d1 r) x (M.Sc.mk zk zc zq za zb) (fun i=>M.Pk.mk (pk i) (ps i) (pa i) (pb i) (pc i) (pd i)) m k).1) (fun k=>(M.Gd.alR (M.Gd.mk w ht s v0 v1 d0 d1 r) x (M.Sc.mk zk zc zq za zb) (fun i=>M.Pk.mk (pk i) (ps i) (pa i) (pb i) (pc i) (pd i)) m k).2) (M.Gd.aln (M.Gd.mk w ht s v0 v1 d0 d1 r) x (M.Sc.mk zk zc zq za zb) (fun i=>M.Pk.mk (pk i) (ps i) (pa i) (pb i) (pc i) (pd i)) m)) (M.tlen za zb (fun k=>(M.Gd.alR (M.Gd.mk w ht s v0 v1 d0 d1 r) x (M.Sc.mk zk zc zq za zb) (fun i=>M.Pk.mk (pk i) (ps i) (pa i) (pb i) (pc i) (pd i)) m k).1) (fun k=>(M.Gd.alR (M.Gd.mk w ht s v0 v1 d0 d1 r) x (M.Sc.mk zk zc zq za zb) (fun i=>M.Pk.mk (pk i) (ps i) (pa i) (pb i) (pc i) (pd i)) m k).2) (M.Gd.aln (M.Gd.mk w ht s v0 v1 d0 d1 r) x (M.Sc.mk zk zc zq za zb) (fun i=>M.Pk.mk (pk i) (ps i) (pa i) (pb i) (pc i) (pd i)) m))) 0=(false,0,0):=rfl
 simp only [hle,e0]
 have e1:M.Gd.aln (M.Gd.mk w ht s v0 v1 d0 d1 r) x (M.Sc.mk zk zc zq za zb) (fun i=>M.Pk.mk (pk i) (ps i) (pa i) (pb i) (pc i) (pd i)) 0=0:=rfl
 have hlen:(M.Gd.aln (M.Gd.mk w ht s v0 v1 d0 d1 r) x (M.Sc.mk zk zc zq za zb) (fun i=>M.Pk.mk (pk i) (ps i) (pa i) (pb i) (pc i) (pd i)) m)≤m:=M.Gd.alS_len m
 simp only [e1]
 simp [cI,asI,hk,ha,hn,hz,hm,f1,f2]
 exact ⟨hP,z4,z5,z6,by omega⟩
theorem s90:PureOK PP 90 e90:=by
 intro xs ps res h hp
 unfold e90 at h
 split at h
 ·rename_i w ht s v0 v1 d0 d1 r ns g_1 f zk zc zq za zb m g_2
  cases h
  simp only [AllP.cons] at hp
  obtain ⟨Hg_1,Hg_2,hp⟩:=hp
  exact Spec.args (enterH (Hold.of (r90 w ht s v0 v1 d0 d1 r ns (cI g_1 0) f zk zc zq za zb m (cI g_2 0) (cI g_2 1) (cI g_2 2) (cI g_2 3) (cI g_2 4) (cI g_2 5)) (br90 w ht s v0 v1 d0 d1 r ns (cI g_1 0) f zk zc zq za zb m (cI g_2 0) (cI g_2 1) (cI g_2 2) (cI g_2 3) (cI g_2 4) (cI g_2 5) hp)) (.nil) (.cons (pureE_ok s80) (.nil)) (k:=90) (by kernel_rfl) (by kernel_rfl) (fun Y=>.cons (by kernel_rfl) (t90a w ht s v0 v1 d0 d1 r ns (cI g_1 0) f zk zc zq za zb m (cI g_2 0) (cI g_2 1) (cI g_2 2) (cI g_2 3) (cI g_2 4) (cI g_2 5) FOK.wide Y) (.cons (by kernel_rfl) (t90 w ht s v0 v1 d0 d1 r ns (cI g_1 0) f zk zc zq za zb m (cI g_2 0) (cI g_2 1) (cI g_2 2) (cI g_2 3) (cI g_2 4) (cI g_2 5) FOK.wide rfl Y) (.nil)))) (.cons (.agg (.cons (.refl _) (.cons (.refl _) (.cons (.refl _) (.cons (.refl _) (.cons (.refl _) (.cons (.refl _) (.cons (.refl _) (.cons (.refl _) (.cons (.row Hg_1 fun _=>rfl) (.cons (.refl _) .nil))))))))))) (.cons (.refl _) (.cons (.row Hg_2 fun _=>rfl) .nil)))
 ·cases h
end Go.Proofs.Ytoncoofmijjgeaa.Sep
