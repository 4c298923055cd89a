/-
  Texts of one seat, joined. No condition. (This text proves no statement by itself.)
-/
import Derived.Test.YtoncoofmijjgeaaKSep12
import Derived.LoopNIn
import Derived.Laws.StructEq
import Derived.Test.YtoncoofmijjgeaaProg
namespace Go.Proofs.Ytoncoofmijjgeaa.Sep
open Go
set_option linter.unusedVariables false
set_option linter.unusedSimpArgs false
def noid1:SV→Bool
 | .lit _ | .int .. | .bool _ | .sl .. | .sptr .. => true
 | _=>false
theorem noid1_den {m:Nat} {cs:List SV} (h:cs.all noid1=true):AV.idsLtL m (SV.denL cs)=true:=by
 induction cs with
 | nil=>rfl
 | cons c cs ih =>
  simp only [List.all_cons,Bool.and_eq_true] at h
  simp only [SV.denL,AV.idsLtL,Bool.and_eq_true]
  refine ⟨?_,ih h.2⟩
  have h1:=h.1
  cases c <;> first | (simp [noid1] at h1; done) | simp [SV.den,AV.idsLt]
def leB (x y:SBlk):Prop :=
 match y with
 | .dead=>match x with
  | .cells cs=>match cs.all noid1 with
   | true=>True
   | false=>False
  | _=>True
 | .cells ds=>match x with
  | .cells cs=>match cs.all noid1 with
   | true=>leRow le1 cs ds
   | false=>False
  | _=>False
 | .row s' n' g=>match x with
  | .row s n f=>match Nat.beq s s' with
   | true=>n'≤n∧∀ k,k<n'→leRow leA (f k) (g k)
   | false=>False
  | _=>False
theorem Blk.le.rowPre {sz n m:Nat} {f:Nat→List SV} (h:m≤n):(Blk.row sz (rowsOf n f)).le (.row sz (rowsOf m f)):=⟨fun _=>rfl,fun S w ρ o hb=>by
 have key:∀ (k:Nat) cs,(rowsOf m f)[k]? = some cs→(rowsOf n f)[k]? = some cs:=fun k cs e=>by
  rw [rowsOf_get] at e ⊢
  split at e
  ·rw [if_pos (by omega)]; exact e
  ·cases e
 obtain ⟨h0,hz,hb⟩:=hb
 refine ⟨h0,fun k cs e=>hz k cs (key k cs e),?_⟩
 rcases hb with ⟨h1,h2⟩ | ⟨b,vs,T,h1,h2,h3⟩
 ·refine .inl ⟨h1,?_⟩
  have h2:=congrArg List.length h2
  rw [rowsOf_length] at h2
  simp only [List.length_nil] at h2
  have:m=0:=by omega
  subst this; rfl
 ·exact .inr ⟨b,vs,T,h1,h2,fun k j cs c e1 e2=>h3 k j cs c (key k cs e1) e2⟩⟩
theorem Blk.le.trans {x y z:Blk} (h:x.le y) (h':y.le z):x.le z:=⟨fun e=>h.1 (h'.1 e),fun S w ρ o e=>h'.2 S w ρ o (h.2 S w ρ o e)⟩
theorem leB_ok {x y:SBlk} {m:Nat} (h:leB x y):x.den.le y.den∧x.den.idsLt m=true:=by
 unfold leB at h
 split at h
 ·refine ⟨⟨fun e=>(by cases e),fun _ _ _ _ _=>trivial⟩,?_⟩
  split at h
  ·split at h
   ·rename_i hc; exact noid1_den hc
   ·exact h.elim
  ·rename_i hx
   cases x with
   | cells cs=>exact absurd rfl (hx cs)
   | _=>rfl
 ·split at h
  ·split at h
   ·rename_i hc; exact ⟨.cells (leRow_ok le1_ok _ _ h),noid1_den hc⟩
   ·exact h.elim
  ·exact h.elim
 ·split at h
  ·split at h
   ·rename_i hs
    have hs:=beq_true hs
    subst hs
    obtain ⟨hn,h⟩:=h
    exact ⟨.trans (.rowPre hn) (.row (rows_le (fun k hk=>leRow_ok leA_ok _ _ (h k hk)))),rfl⟩
   ·exact h.elim
  ·exact h.elim
def leBs:Nat→List SBlk→SBlks→Prop→Prop
 | _,[],_,K=>K
 | i,b :: bs,H,K =>
  match getB H i with
  | some c=>leB c b∧leBs (i+1) bs H K
  | none=>False
theorem leBs_ok:∀ {bs:List SBlk} {i:Nat} {H:SBlks} {K:Prop},leBs i bs H K→K∧∀ j b,bs[j]? = some b → ∃ c,getB H (i+j)=some c∧leB c b
 | [],i,H,K,h=>⟨h,fun j b e=>by simp at e⟩
 | b :: bs,i,H,K,h=>by
  simp only [leBs] at h
  split at h
  ·rename_i c hc
   obtain ⟨h1,h2⟩:=h
   obtain ⟨h3,h4⟩:=leBs_ok h2
   refine ⟨h3,fun j b' e => ?_⟩
   cases j with
   | zero=>simp at e; subst e; exact ⟨c,hc,h1⟩
   | succ j=>simp at e; obtain ⟨c',g1,g2⟩:=h4 j b' e; exact ⟨c',by rw [← g1]; congr 1; omega,g2⟩
  ·exact h.elim
def resS (P:Program) (A:SSlots) (H:SBlks):List ResultVar→Option (List Prop × List SV)
 | []=>some ([],[])
 | .tmp t :: rs =>
  match resS P A H rs with
  | some q=>some ((getS A t).grd ++ q.1,(getS A t).strip :: q.2)
  | none=>none
 | .cell a T :: rs =>
  match memS P (.load T (.tmp a)) 0 (opdS A) (getB H) with
  | some out=>match resS P A H rs with
   | some q=>some (out.ps ++ q.1,out.val :: q.2)
   | none=>none
  | none=>none
theorem resS_ok {P:Program} {A:SSlots} {H:SBlks} : ∀ {rs:List ResultVar} {ps:List Prop} {vs:List SV},resS P A H rs=some (ps,vs)→AllP ps → ∃ q,resVC P (denA A) (denB H) rs=some q∧q.1∧LeL q.2 (SV.denL vs)
 | [],ps,vs,h,_=>by
  simp only [resS,Option.some.injEq,Prod.mk.injEq] at h
  obtain ⟨rfl,rfl⟩:=h
  exact ⟨(True,[]),rfl,trivial,trivial⟩
 | .tmp t :: rs,ps,vs,h,hp=>by
  simp only [resS] at h
  split at h
  ·rename_i q hq
   cases h
   obtain ⟨hp1,hp2⟩:=AllP.app.1 hp
   obtain ⟨q',g1,g2,g3⟩:=resS_ok (ps:=q.1) (vs:=q.2) hq hp2
   refine ⟨(grd (getA (denA A) t)=true∧q'.1,strip (getA (denA A) t) :: q'.2),by simp only [resVC,g1,Option.map_some],⟨by rw [getA_den]; exact den_grd hp1,g2⟩,?_⟩
   simp only [SV.denL]
   exact ⟨by rw [getA_den,den_strip]; exact .refl _,g3⟩
  ·cases h
 | .cell a T :: rs,ps,vs,h,hp=>by
  simp only [resS] at h
  split at h
  ·rename_i out ho
   split at h
   ·rename_i q hq
    cases h
    obtain ⟨hp1,hp2⟩:=AllP.app.1 hp
    obtain ⟨q',g1,g2,g3⟩:=resS_ok (ps:=q.1) (vs:=q.2) hq hp2
    obtain ⟨out',e1,e2,e3⟩:=memS_sound ho hp1
    refine ⟨(out'.cond∧q'.1,out'.val :: q'.2),by simp only [resVC,opdS_den,getH_den,e1,g1,Option.map_some],⟨e2,g2⟩,?_⟩
    simp only [SV.denL]
    exact ⟨e3.val,g3⟩
   ·cases h
  ·cases h
def packS:List SV→SV
 | [x]=>x
 | xs=>.tup xs
theorem packS_den:∀ {xs:List AV} {vs:List SV},LeL xs (SV.denL vs)→(packR xs).le (packS vs).den
 | [],[],_=>.tup trivial
 | [x],[v],h=>h.1
 | x :: y :: xs,v :: u :: vs,h=>.tup h
 | [],v :: vs,h=>h.elim
 | [x],[],h=>h.elim
 | [x],v :: u :: vs,h=>h.2.elim
 | x :: y :: xs,[],h=>h.elim
 | x :: y :: xs,[v],h=>h.2.elim
def retS (P:Program) (rs:List ResultVar) (r:SV) (Hs':List SBlk):SPost:=fun e A H _ =>
 match e with
 | .normal | .ret =>
  match resS P A H rs with
  | some (ps,vs)=>allP ps <| match coe3 (getB H) (packS vs) with
   | some (qs,Z,y)=>allP qs <|
    match Z.all (fun i=>Nat.ble Hs'.length i) with
    | true=>leBs 0 Hs' H (force3 y fun y=>le3 y r)
    | false=>False
   | none=>False
  | none=>False
 | _=>False
theorem retS_ok {P:Program} {rs:List ResultVar} {r:SV} {Hs':List SBlk} {e:Exit} {A:SSlots} {H:SBlks} {nx:Cnt} (h:retS P rs r Hs' e A H nx) :
  (e = .normal∨e = .ret) ∧ ∃ q,resVC P (denA A) (denB H) rs=some q∧q.1 ∧ ∃ (x y:AV) (Z:List Nat),(packR q.2).le x∧Coe (getH (denB H)) Z x y∧y.idless=true∧y.le r.den∧(∀ i ∈ Z,Hs'.length≤i ∧ ∃ k,getH (denB H) i=some k∧k.live=true) ∧
   ∀ i b,Hs'[i]? = some b → ∃ c,getH (denB H) i=some c∧c.le b.den∧c.idsLt Hs'.length=true:=by
 unfold retS at h
 have key:(match resS P A H rs with
  | some (ps,vs)=>allP ps <| match coe3 (getB H) (packS vs) with
   | some (qs,Z,y)=>allP qs <|
    match Z.all (fun i=>Nat.ble Hs'.length i) with
    | true=>leBs 0 Hs' H (force3 y fun y=>le3 y r)
    | false=>False
   | none=>False
  | none=>False) → ∃ q,resVC P (denA A) (denB H) rs=some q∧q.1 ∧ ∃ (x y:AV) (Z:List Nat),(packR q.2).le x∧Coe (getH (denB H)) Z x y∧y.idless=true∧y.le r.den∧(∀ i ∈ Z,Hs'.length≤i ∧ ∃ k,getH (denB H) i=some k∧k.live=true) ∧
   ∀ i b,Hs'[i]? = some b → ∃ c,getH (denB H) i=some c∧c.le b.den∧c.idsLt Hs'.length=true:=by
  intro h
  split at h
  ·rename_i ps vs hr
   obtain ⟨h1,h2⟩:=allP_iff.1 h
   split at h2
   ·rename_i qs Z y hc
    obtain ⟨h3,h4⟩:=allP_iff.1 h2
    split at h4
    ·rename_i hz
     obtain ⟨h5,h6⟩:=leBs_ok h4
     rw [force3_eq] at h5
     obtain ⟨q,g1,g2,g3⟩:=resS_ok hr h1
     obtain ⟨a1,a2,a3⟩:=coe3_ok _ _ _ _ _ hc h3
     refine ⟨q,g1,g2,_,_,Z,packS_den g3,by rw [getH_den]; exact a1,a2,le3_ok _ _ h5,fun i hi=>⟨Nat.le_of_ble_eq_true (List.all_eq_true.1 hz i hi),?_⟩,fun i b hb => ?_⟩
     ·obtain ⟨k,k1,k2⟩:=a3 i hi
      exact ⟨k.den,by rw [getH_den]; exact denH_some k1,k2⟩
     ·obtain ⟨c,c1,c2⟩:=h6 i b hb
      obtain ⟨d1,d2⟩:=leB_ok (m:=Hs'.length) c2
      exact ⟨c.den,by rw [getH_den]; exact denH_some (by simpa using c1),d1,d2⟩
    ·exact h4.elim
   ·exact h2.elim
  ·exact h.elim
 split at h
 ·exact ⟨.inl rfl,key h⟩
 ·exact ⟨.inr rfl,key h⟩
 ·exact h.elim
def argsS:Nat→List SV→SSlots
 | _,[]=>[]
 | k,x :: xs=>(k,x) :: argsS (k+1) xs
def idxB:Nat→List SBlk→SBlks
 | _,[]=>[]
 | k,x :: xs=>(k,x) :: idxB (k+1) xs
theorem denA_argsS:∀ (xs:List SV) (k:Nat),denA (argsS k xs)=argsA k (SV.denL xs)
 | [],k=>rfl
 | x :: xs,k=>by simp only [argsS,SV.denL,argsA,← denA_argsS xs (k+1)]; rfl
theorem denB_idxB:∀ (xs:List SBlk) (k:Nat),denB (idxB k xs)=idxH k (xs.map SBlk.den)
 | [],k=>rfl
 | x :: xs,k=>by simp only [idxB,List.map_cons,idxH,← denB_idxB xs (k+1)]; rfl
theorem Ctx.Re.trans {C C' C'':Ctx} (h:C.Re C') (h':C'.Re C''):C.Re C'' where
 size:=Nat.le_trans h.size h'.size
 shape b s e:=h'.shape b s (h.shape b s e)
 old b hb hx:=(h'.old b (Nat.lt_of_lt_of_le hb h.size) (fun e=>by
  rcases h.x1 b e with h1 | h1
  ·exact hx h1
  ·omega)).trans (h.old b hb hx)
 keep b vs T fz e e':=h'.keep b vs T fz (h.s0 b e) (h.keep b vs T fz e e')
 s0 b e:=h'.s0 b (h.s0 b e)
 s2:=h'.s2
 s3 b e:=by
  rcases h'.s3 b e with h1 | h1
  ·rcases h.s3 b h1 with h2 | h2
   ·exact .inl h2
   ·exact .inr (h'.x b h2)
  ·exact .inr h1
 x b e:=h'.x b (h.x b e)
 x1 b e:=by
  rcases h'.x1 b e with h1 | ⟨h1,h2⟩
  ·rcases h.x1 b h1 with h2 | ⟨h2,h3⟩
   ·exact .inl h2
   ·exact .inr ⟨h2,Nat.lt_of_lt_of_le h3 h'.size⟩
  ·exact .inr ⟨Nat.le_trans h.size h1,h2⟩
 ox:=h'.ox
def YEnv.triv (P:Program) (C0:Ctx):YEnv P YS.none where
 G _ _ C:=C0.Re C
 re h h':=h.trans h'
 ox h:=h.ox
 off _:=fun h=>h
 idl _:=rfl
 call h:=by cases h
theorem Spec.enterS {P:Program} {E:Eqs} (hE:EqsOK P E) {O:Orc} (hO:OrcOK P O) (hmix:P.follows .mixedOrders=true) (ck:Bool) (L:List Nat) (LO:Loops) {f:FuncId} {fn:Func} {code:Code} {xs:List SV} {Hs Hs':List SBlk} {r:SV}
  (hf : P.funcs[f]? = some fn) (hn : (fn.name == "runtime.NumGoroutine") = false) (hb : fn.body = some code) (hxs : xs.length ≤ fn.ntmps) (hlen : Hs'.length = Hs.length) (hL : ∀ Y : YEnv P YS.none, LoopsOK Y Fence.wide fn.ntmps Hs.length LO code)
  (h:vcS P E O ck YS.none fn.ntmps L LO code (retS P fn.results.toList r Hs') (argsS 0 xs) (idxB 0 Hs) ⟨Hs.length,0,false⟩):Spec P f (SV.denL xs) (Hs.map SBlk.den) r.den (Hs'.map SBlk.den):=by
 refine ⟨Ent.of hf hn (by rw [hb]; rfl),by simp; omega,fun ρ0 S w vs hmem hargs => ?_⟩
 refine callsIn_wide.1 (callsIn_of_wp_marks (F:=Fence.wide) (n:=0) hf hb trivial ?_)
 have hsz:vs.size=xs.length:=by rw [hargs.1,denL_length]
 have hrep:Rep (Ctx.of w ρ0 S) fn.ntmps ρ0 S (getA (denA (argsS 0 xs))) (getH (denB (idxB 0 Hs))) (fun i=>Hs.length≤i) { tmps:=vs ++ Array.replicate (fn.ntmps-vs.size) undef,defers:=[] } w:=by
  rw [denA_argsS,denB_idxB]
  refine ⟨?_,by simp [hsz]; omega,fun t v e => ?_,⟨[],rfl,List.nodup_nil,fun n hn=>by cases hn⟩,fun _ e=>e⟩
  ·have:getH (idxH 0 (Hs.map SBlk.den))=((Hs.map SBlk.den)[·]?):=by funext i; rw [getH_idxH]; simp
   rw [this]
   simpa using hmem
  ·rw [getA_argsA]
   simp only [Nat.zero_le,if_true,Nat.sub_zero]
   rcases Nat.lt_or_ge t (SV.denL xs).length with hlt | hge
   ·rw [Array.getElem?_append_left (by rw [hargs.1]; exact hlt)] at e
    exact hargs.2 t _ v (by simp [List.getD,hlt]) e
   ·rw [show (SV.denL xs).getD t .top = .top by simp [List.getD,List.getElem?_eq_none hge]]; exact .top _
 have hw:=vcS_sound hE hO FOK.wide hmix (Y:=YEnv.triv P (Ctx.of w ρ0 S)) code (hL _) _ _ _ _ h
 have hG:(YEnv.triv P (Ctx.of w ρ0 S)).G 0 false (Ctx.of w ρ0 S):=⟨Nat.le_refl _,fun _ _ e=>e,fun _ _ _=>rfl,fun _ _ _ _ _ e=>e,fun _ e=>e,hmem.sin,fun _ e=>.inl e,fun _ e=>e,fun _ e=>.inl e,fun _ e=>e⟩
 refine wpIn_mono (hw _ ρ0 S _ w (fun i hi=>(hmem.free i (by simpa using hi)).2) hG hrep (fun t ht => ?_)) ?_
 ·rw [denA_argsS,getA_argsA]
  simp only [Nat.zero_le,if_true,Nat.sub_zero]
  simp [List.getD,List.getElem?_eq_none (show (SV.denL xs).length≤t by rw [denL_length]; omega)]
 ·rintro e a' w' ⟨C',ρ',S',A',H',nx',hC,hg',hr1,ht',SA,SH,rfl,rfl,hret⟩
  have hg':(Ctx.of w ρ0 S).Re C':=hg'
  have hr':Rep (Ctx.of w ρ0 S) fn.ntmps ρ' S' (getA (denA SA)) (getH (denB SH)) (fun i=>nx'.n≤i) a' w':=by
   refine ⟨hr1.mem.back hg' (by rw [hC.ρ0]; exact Names.le.refl _) (fun _ e=>e),hr1.size,hr1.slots,?_,fun n e=>hr1.dk n (hC.dk n e)⟩
   obtain ⟨ns,g1,g2,g3⟩:=hr1.marks
   refine ⟨ns,g1,g2,fun n hn=>⟨?_,(g3 n hn).2⟩⟩
   rcases (g3 n hn).1 with h1 | h1
   ·exact (hg'.x1 n (hg'.ox n h1)).imp id (·.1)
   ·exact .inr (Nat.le_trans hg'.size h1)
  obtain ⟨he,q,hq,hqc,x,y,Z,hx,hcoe,hidl,hyr,hZ,hfin⟩:=retS_ok hret
  have hend:LeavesInM Fence.wide 0 P fn a'.tmps (fun e w'' => ∃ v,e = .returned v ∧ ∃ ρ'' S'',Mem (Ctx.of w ρ0 S) ρ'' S'' ((Hs'.map SBlk.den)[·]?) (fun i=>(Hs'.map SBlk.den).length≤i) w''∧Rel S'' w'' ρ'' r.den v) a'.defers .returning w':=by
   obtain ⟨ns,hds,hnd,hns⟩:=hr'.marks
   rw [hds]
   refine leaves_marks (C:=(Ctx.of w ρ0 S)) (fun w''=>Mem (Ctx.of w ρ0 S) ρ' S' (getH (denB SH)) (fun i=>nx'.n≤i) w''∧∀ t v,a'.tmps[t]? = some v→Rel S' w'' ρ' (getA (denA SA) t) v) (fun w'' hq'' => ?_) (fun w1 n hr1 h1 h2 => ?_) ns w' hnd hns ⟨hr'.mem,hr'.slots⟩
   ·have hr'':Rep ((Ctx.of w ρ0 S).again w'' S') fn.ntmps ρ' S' (getA (denA SA)) (getH (denB SH)) (fun i=>nx'.n≤i) ⟨a'.tmps,[]⟩ w'':=⟨hq''.1.again,hr'.size,hq''.2,⟨[],rfl,List.nodup_nil,fun n hn=>by cases hn⟩,fun _ e=>e⟩
    obtain ⟨v,hres,hrel⟩:=run_results (fn:=fn) hr'' ht' hq hqc
    have hv:=hyr _ _ _ _ ((hcoe.rel hq''.1 (hx _ _ _ _ hrel)).idless hidl)
    refine ⟨v,hres,v,rfl,Sep.below Hs.length ρ',frozenS S' ρ' Z,?_,hv.mono (Kept.refl _ _) (fun _ e=>e) (fun i b e=>by cases e)⟩
    have hfz:=hq''.1.freeze Z (fun i hi=>(hZ i hi).2)
    let Hm:List Blk:=(List.range Hs.length).map fun i=>(getH (denB SH) i).getD .dead
    have hm:∀ i,i<Hs.length → ∃ c b,getH (denB SH) i=some c∧Hs'[i]? = some b∧Hm[i]? = some c∧c.le b.den∧c.idsLt Hs.length=true:=fun i hi=>by
     obtain ⟨b,hb⟩ : ∃ b,Hs'[i]? = some b:=⟨Hs'[i]'(by omega),by simp⟩
     obtain ⟨c,c1,c2,c3⟩:=hfin i b hb
     exact ⟨c,b,c1,hb,by simp [Hm,List.getElem?_map,List.getElem?_range hi,c1],c2,by rw [← hlen]; exact c3⟩
    have:=hfz.restrict (m:=Hs.length) (Hs:=Hm) (fun i hi=>(hmem.free i (by simpa using hi)).2) (by simp [Hm]) (fun i hi=>by
     have hz:i ∉ Z:=fun e=>by have:=(hZ i e).1; omega
     obtain ⟨c,b,c1,c2,c3,c4,c5⟩:=hm i hi
     rw [if_neg hz]
     exact ⟨by rw [c1,c3],fun k e=>by rw [c3] at e; cases e; exact c5⟩)
    have:=this.le (H':=((Hs'.map SBlk.den)[·]?)) (fun i=>by
     rcases Nat.lt_or_ge i Hs.length with hi | hi
     ·obtain ⟨c,b,c1,c2,c3,c4,c5⟩:=hm i hi
      exact .inr ⟨c,b.den,c3,by simp [List.getElem?_map,c2],c4⟩
     ·exact .inl ⟨List.getElem?_eq_none (by simp [Hm]; exact hi),List.getElem?_eq_none (by simp; omega)⟩)
    refine this.less (fun i hi => ?_)
    simp at hi
    omega
   ·obtain ⟨hm2,hk2⟩:=hr1.1.turn (w':=w1.putObj n (.deferred none)) (n:=n) h1 (fun vs T fz e=>by rw [h2] at e; cases e) (by simp [World.putObj]) (fun c hc=>World.putObj_heap_other hc) ⟨rfl,rfl⟩
    exact ⟨hm2,fun t v e=>(hr1.2 t v e).mono hk2 (fun _ e=>e) (Names.le.refl _)⟩
  rcases he with rfl | rfl
  ·exact hend
  ·exact hend
end Go.Proofs.Ytoncoofmijjgeaa.Sep
namespace Go.Proofs.Ytoncoofmijjgeaa.Sep
open Go
set_option linter.unusedVariables false
set_option linter.unusedSimpArgs false
abbrev Sg:=List (Nat × Option Nat)
def sgAt:Sg→Nat→Option (Option Nat)
 | [],_=>none
 | p :: r,t=>match Nat.beq p.1 t with
  | true=>some p.2
  | false=>sgAt r t
def sgUsed:Sg→Nat→Bool
 | [],_=>false
 | p :: r,i=>match p.2 with
  | some k=>match Nat.beq k i with
   | true=>true
   | false=>sgUsed r i
  | none=>sgUsed r i
def renS (m:Nat) (σ:Sg) (ρ:Names):Names:=fun j=>if j<m then ρ j else match sgAt σ j with | some (some i)=>ρ i | _=>none
def bindS (m:Nat) (j i:Nat) (σ:Sg) (K:Sg→Prop):Prop :=
 match Nat.blt j m with
 | true=>match Nat.beq i j with
  | true=>K σ
  | false=>False
 | false=>match sgAt σ j with
  | some (some i')=>match Nat.beq i i' with
   | true=>K σ
   | false=>False
  | some none=>False
  | none=>match Nat.ble m i with
   | true=>match sgUsed σ i with
    | true=>False
    | false=>K ((j,some i) :: σ)
   | false=>False
def bindNil (m:Nat) (j:Nat) (σ:Sg) (K:Sg→Prop):Prop :=
 match Nat.blt j m with
 | true=>False
 | false=>match sgAt σ j with
  | some (some _)=>False
  | some none=>K σ
  | none=>K ((j,none) :: σ)
def fit1 (m:Nat) (x y:SV) (σ:Sg) (K:Sg→Prop):Prop :=
 match y with
 | .top=>K σ
 | .ptr j o'=>match x with
  | .ptr i o=>match Nat.beq o o' with
   | true=>bindS m j i σ K
   | false=>False
  | _=>False
 | .vec j sz' lo' n'=>match x with
  | .vec i sz lo n=>match Nat.beq sz sz' with
   | true=>lo=lo'∧n=n'∧bindS m j i σ K
   | false=>False
  | .lit (.slice none 0 0)=>n'=0∧bindNil m j σ K
  | _=>False
 | .sptr s' n' g k' j'=>match x with
  | .sptr s n f k j=>match Nat.beq s s' with
   | true=>match Nat.beq j j' with
    | true=>n=n'∧k=k'∧(∀ q,q<n→leRow le1 (f q) (g q))∧K σ
    | false=>False
   | false=>False
  | _=>False
 | y=>le1 x y∧K σ
def fitRow (g:SV→SV→Sg→(Sg→Prop)→Prop):List SV→List SV→Sg→(Sg→Prop)→Prop
 | [],[],σ,K=>K σ
 | x :: xs,y :: ys,σ,K=>g x y σ fun σ=>fitRow g xs ys σ K
 | _,_,_,_=>False
def fit2 (m:Nat) (x y:SV) (σ:Sg) (K:Sg→Prop):Prop :=
 match y with
 | .agg ds=>match x with
  | .agg cs=>fitRow (fit1 m) cs ds σ K
  | _=>False
 | .fn f' ys ds=>match x with
  | .fn f xs cs=>match Nat.beq f f' with
   | true=>fitRow (fit1 m) xs ys σ fun σ=>fitRow (fit1 m) cs ds σ K
   | false=>False
  | _=>False
 | y=>fit1 m x y σ K
def fit3 (m:Nat) (x y:SV) (σ:Sg) (K:Sg→Prop):Prop :=
 match y with
 | .tup ds=>match x with
  | .tup cs=>fitRow (fit2 m) cs ds σ K
  | _=>False
 | y=>fit2 m x y σ K
def fitA (m:Nat) (A:SSlots):SSlots→Sg→(Sg→Prop)→Prop
 | [],σ,K=>K σ
 | p :: r,σ,K=>fit3 m (getS A p.1) p.2 σ fun σ=>fitA m A r σ K
def fitCh:Nat→List SV→(Nat→List SV)→Prop→Prop
 | _,[],_,p=>p
 | k,c :: cs,g,p=>leRow leA [c] (g k)∧fitCh (k+1) cs g p
def fitB (m:Nat) (x y:SBlk) (σ:Sg) (K:Sg→Prop):Prop :=
 match y with
 | .dead=>K σ
 | .cells ds=>match x with
  | .cells cs=>fitRow (fit2 m) cs ds σ K
  | _=>False
 | .row s' n' g=>match x with
  | .row s n f=>match Nat.beq s s' with
   | true=>n'≤n∧(∀ k,k<n'→leRow leA (f k) (g k))∧K σ
   | false=>False
  | .cells cs=>match Nat.beq s' 1 with
   | true=>match Nat.beq cs.length n' with
    | true=>fitCh 0 cs g (K σ)
    | false=>False
   | false=>False
  | _=>False
def fitH (m:Nat) (H:SBlks):SBlks→Sg→(Sg→Prop)→Prop
 | [],σ,K=>K σ
 | p :: r,σ,K =>
  match Nat.blt p.1 m with
  | true=>match getB H p.1 with
   | some c=>fitB m c p.2 σ fun σ=>fitH m H r σ K
   | none=>False
  | false=>match sgAt σ p.1 with
   | some (some i)=>match getB H i with
    | some c=>fitB m c p.2 σ fun σ=>fitH m H r σ K
    | none=>False
   | some none=>match p.2 with
    | .row sz n _=>match Nat.blt 0 sz with
     | true=>n=0∧fitH m H r σ K
     | false=>False
    | _=>False
   | none=>False
def fit (N m:Nat) (A:SSlots) (H:SBlks) (A':SSlots) (H':SBlks) (n':Nat):Prop :=
 fitA m A A' [] fun σ=>fitH m H H' σ fun σ =>
  match (σ.all fun p=>Nat.blt p.1 n') && (H'.all fun p=>Nat.blt p.1 n') && (A'.all fun p=>Nat.blt p.1 N) && Nat.ble m n' with
  | true=>True
  | false=>False
def Ext (σ σ':Sg):Prop:=∀ j v,sgAt σ j=some v→sgAt σ' j=some v
theorem Ext.refl (σ:Sg):Ext σ σ:=fun _ _ h=>h
theorem Ext.trans {σ σ' σ'':Sg} (h:Ext σ σ') (h':Ext σ' σ''):Ext σ σ'':=fun j v e=>h' j v (h j v e)
structure Fair (m:Nat) (σ:Sg):Prop where
 inj:∀ j j' i,sgAt σ j=some (some i)→sgAt σ j'=some (some i)→j=j'
 low:∀ j i,sgAt σ j=some (some i)→m≤i
theorem sgAt_mem {σ:Sg} {j:Nat} {v:Option Nat} (h:sgAt σ j=some v):(j,v) ∈ σ:=by
 induction σ with
 | nil=>cases h
 | cons p σ ih =>
  simp only [sgAt] at h
  split at h
  ·rename_i e; cases h; rw [← beq_true e]; simp
  ·exact List.mem_cons_of_mem _ (ih h)
theorem sgUsed_not {σ:Sg} {i:Nat} (h:sgUsed σ i=false):∀ j,sgAt σ j≠some (some i):=by
 intro j e
 have:=sgAt_mem e
 clear e
 induction σ with
 | nil=>cases this
 | cons p σ ih =>
  simp only [sgUsed] at h
  rcases List.mem_cons.1 this with e | e
  ·subst e
   simp only at h
   split at h
   ·cases h
   ·rename_i hb; exact beq_false hb rfl
  ·split at h
   ·split at h
    ·cases h
    ·exact ih h e
   ·exact ih h e
theorem blt_true {a b:Nat} (h:Nat.blt a b=true):a<b:=Nat.le_of_ble_eq_true h
theorem blt_false {a b:Nat} (h:Nat.blt a b=false):b≤a:=by
 rcases Nat.lt_or_ge a b with h' | h'
 ·have:=Nat.ble_eq_true_of_le (show a+1≤b from h')
  unfold Nat.blt at h
  rw [h] at this; cases this
 ·exact h'
theorem Ext.cons {σ:Sg} {j:Nat} {v:Option Nat} (h:sgAt σ j=none):Ext σ ((j,v) :: σ):=fun k u e=>by
 simp only [sgAt]
 split
 ·rename_i hb
  have hb:j=k:=beq_true hb
  subst hb; rw [h] at e; cases e
 ·exact e
theorem sgAt_cons {σ:Sg} {j k:Nat} {v u:Option Nat} (h:sgAt ((j,v) :: σ) k=some u):(k=j∧u=v)∨sgAt σ k=some u:=by
 simp only [sgAt] at h
 split at h
 ·rename_i hb; cases h; exact .inl ⟨(beq_true hb).symm,rfl⟩
 ·exact .inr h
theorem sgAt_here {σ:Sg} {j:Nat} {v:Option Nat} : sgAt ((j,v) :: σ) j=some v:=by
 simp [sgAt]
theorem bindS_ok {m j i:Nat} {σ:Sg} {K:Sg→Prop} (h:bindS m j i σ K) (hf:Fair m σ) : ∃ σ',K σ'∧Ext σ σ'∧Fair m σ'∧∀ σ'',Ext σ' σ''→∀ ρ,renS m σ'' ρ j=ρ i:=by
 unfold bindS at h
 split at h
 ·rename_i hj
  split at h
  ·rename_i hi
   have:=beq_true hi
   subst this
   exact ⟨σ,h,.refl _,hf,fun σ'' _ ρ=>by simp [renS,blt_true hj]⟩
  ·exact h.elim
 ·rename_i hj
  have hj':¬ j<m:=Nat.not_lt.2 (blt_false hj)
  split at h
  ·rename_i i' hi'
   split at h
   ·rename_i e
    have:=beq_true e
    subst this
    exact ⟨σ,h,.refl _,hf,fun σ'' hx ρ=>by simp [renS,hj',hx _ _ hi']⟩
   ·exact h.elim
  ·exact h.elim
  ·rename_i hn
   split at h
   ·rename_i hm
    split at h
    ·exact h.elim
    ·rename_i hu
     refine ⟨_,h,Ext.cons hn,⟨fun a b k e1 e2 => ?_,fun a k e => ?_⟩,fun σ'' hx ρ=>by simp [renS,hj',hx _ _ sgAt_here]⟩
     ·rcases sgAt_cons e1 with ⟨rfl,h1⟩ | h1 <;> rcases sgAt_cons e2 with ⟨rfl,h2⟩ | h2
      ·rfl
      ·cases h1; exact absurd h2 (sgUsed_not hu _)
      ·cases h2; exact absurd h1 (sgUsed_not hu _)
      ·exact hf.inj _ _ _ h1 h2
     ·rcases sgAt_cons e with ⟨-,h1⟩ | h1
      ·cases h1; exact Nat.le_of_ble_eq_true hm
      ·exact hf.low _ _ h1
   ·exact h.elim
theorem bindNil_ok {m j:Nat} {σ:Sg} {K:Sg→Prop} (h:bindNil m j σ K) (hf:Fair m σ) : ∃ σ',K σ'∧Ext σ σ'∧Fair m σ':=by
 unfold bindNil at h
 split at h
 ·exact h.elim
 ·split at h
  ·exact h.elim
  ·exact ⟨σ,h,.refl _,hf⟩
  ·rename_i hn
   refine ⟨_,h,Ext.cons hn,⟨fun a b k e1 e2 => ?_,fun a k e => ?_⟩⟩
   ·rcases sgAt_cons e1 with ⟨-,h1⟩ | h1
    ·cases h1
    ·rcases sgAt_cons e2 with ⟨-,h2⟩ | h2
     ·cases h2
     ·exact hf.inj _ _ _ h1 h2
   ·rcases sgAt_cons e with ⟨-,h1⟩ | h1
    ·cases h1
    ·exact hf.low _ _ h1
def Turns (m:Nat) (σ:Sg) (x y:SV):Prop:=∀ S w ρ v,Rel S w ρ x.den v→Rel S w (renS m σ ρ) y.den v
def FitOK (m:Nat) (g:SV→SV→Sg→(Sg→Prop)→Prop):Prop:=∀ x y σ K,g x y σ K→Fair m σ → ∃ σ',K σ'∧Ext σ σ'∧Fair m σ'∧∀ σ'',Ext σ' σ''→Turns m σ'' x y
theorem le1_noid {x y:SV} (h:le1 x y):y = .top∨noid1 y=true:=by
 unfold le1 at h
 split at h
 ·exact .inr rfl
 ·unfold le0 at h
  split at h
  ·exact .inl rfl
  ·exact .inr rfl
  ·exact .inr rfl
  ·exact .inr rfl
  ·exact h.elim
theorem noid1_idless {y:SV} (h:noid1 y=true):y.den.idless=true:=by
 cases y <;> first | (simp [noid1] at h; done) | simp [SV.den,AV.idless]
theorem Turns.le1 {m:Nat} {σ:Sg} {x y:SV} (h:le1 x y):Turns m σ x y:=fun S w ρ v hv=>by
 have h1:=le1_ok _ _ h _ _ _ _ hv
 rcases le1_noid h with rfl | hn
 ·exact .top v
 ·exact (h1.idless (noid1_idless hn)).mono (Kept.refl _ _) (fun _ e=>e) (fun _ _ e=>by cases e)
theorem fit1_ok (m:Nat):FitOK m (fit1 m):=by
 intro x y σ K h hf
 unfold fit1 at h
 split at h
 ·exact ⟨σ,h,.refl _,hf,fun σ'' _ S w ρ v _=>.top v⟩
 ·split at h
  ·split at h
   ·rename_i ho
    have:=beq_true ho
    subst this
    obtain ⟨σ',h1,h2,h3,h4⟩:=bindS_ok h hf
    refine ⟨σ',h1,h2,h3,fun σ'' hx S w ρ v hv => ?_⟩
    obtain ⟨b,hb,rfl⟩:=hv.ptr_inv
    exact .ptr (by rw [h4 σ'' hx]; exact hb)
   ·exact h.elim
  ·exact h.elim
 ·split at h
  ·split at h
   ·rename_i ho
    have:=beq_true ho
    subst this
    obtain ⟨rfl,rfl,h⟩:=h
    obtain ⟨σ',h1,h2,h3,h4⟩:=bindS_ok h hf
    refine ⟨σ',h1,h2,h3,fun σ'' hx S w ρ v hv => ?_⟩
    rcases hv.vec_inv with ⟨a,rfl,rfl⟩ | ⟨b,T,n',cap,g1,g2,g3,g4,rfl⟩
    ·exact .vec0
    ·exact .vec (by rw [h4 σ'' hx]; exact g1) g2 g3 g4
   ·exact h.elim
  ·obtain ⟨rfl,h⟩:=h
   obtain ⟨σ',h1,h2,h3⟩:=bindNil_ok h hf
   refine ⟨σ',h1,h2,h3,fun σ'' hx S w ρ v hv => ?_⟩
   obtain rfl:=Rel.lit_inv hv
   exact .vec0
  ·exact h.elim
 ·split at h
  ·split at h
   ·rename_i hs
    have:=beq_true hs
    subst this
    split at h
    ·rename_i hj
     have:=beq_true hj
     subst this
     obtain ⟨rfl,rfl,hr,h⟩:=h
     refine ⟨σ,h,.refl _,hf,fun σ'' hx S w ρ v hv => ?_⟩
     have:=AV.le.vptr (rows_le (fun k hk=>leRow_ok le1_ok _ _ (hr k hk))) _ _ _ _ hv
     have:=this.idless (by simp [AV.idless])
     exact this.mono (Kept.refl _ _) (fun _ e=>e) (fun _ _ e=>by cases e)
    ·exact h.elim
   ·exact h.elim
  ·exact h.elim
 ·obtain ⟨h1,h2⟩:=h
  exact ⟨σ,h2,.refl _,hf,fun σ'' _=>.le1 h1⟩
theorem fitRow_ok {m:Nat} {g:SV→SV→Sg→(Sg→Prop)→Prop} (hg:FitOK m g):∀ (xs ys:List SV) (σ:Sg) (K:Sg→Prop),fitRow g xs ys σ K→Fair m σ → ∃ σ',K σ'∧Ext σ σ'∧Fair m σ'∧xs.length=ys.length ∧
  ∀ σ'',Ext σ' σ''→∀ (k:Nat) x y,xs[k]? = some x→ys[k]? = some y→Turns m σ'' x y:=by
 intro xs
 induction xs with
 | nil =>
  intro ys σ K h hf
  cases ys with
  | nil=>exact ⟨σ,h,.refl _,hf,rfl,fun _ _ k x y e=>by simp at e⟩
  | cons y ys=>exact h.elim
 | cons x xs ih =>
  intro ys σ K h hf
  cases ys with
  | nil=>exact h.elim
  | cons y ys =>
   obtain ⟨σ1,h1,h2,h3,h4⟩:=hg _ _ _ _ h hf
   obtain ⟨σ2,g1,g2,g3,g4,g5⟩:=ih ys σ1 K h1 h3
   refine ⟨σ2,g1,h2.trans g2,g3,by simp [g4],fun σ'' hx k a b e1 e2 => ?_⟩
   cases k with
   | zero=>simp at e1 e2; subst e1; subst e2; exact h4 _ (g2.trans hx)
   | succ k=>simp at e1 e2; exact g5 σ'' hx k a b e1 e2
theorem denL_get_inv {cs:List SV} {k:Nat} {c:AV} (h:(SV.denL cs)[k]? = some c) : ∃ y,cs[k]? = some y∧c=y.den:=by
 rw [denL_getElem] at h
 cases hc:cs[k]? with
 | none=>rw [hc] at h; cases h
 | some y=>rw [hc] at h; cases h; exact ⟨y,rfl,rfl⟩
theorem turns_row {m:Nat} {σ:Sg} {xs ys:List SV} {S:Nat→Prop} {w:World} {ρ:Names} {vs:Array Value} (hl:xs.length=ys.length) (h:∀ (k:Nat) x y,xs[k]? = some x→ys[k]? = some y→Turns m σ x y)
  (hr:RelCs S w ρ (SV.denL xs) vs):RelCs S w (renS m σ ρ) (SV.denL ys) vs:=by
 refine ⟨by rw [hr.1,denL_length,denL_length,hl],fun k c v e1 e2 => ?_⟩
 obtain ⟨y,e3,rfl⟩:=denL_get_inv e1
 have hk:k<xs.length:=by rw [hl]; exact (List.getElem?_eq_some_iff.1 e3).1
 have hx:xs[k]? = some xs[k]:=by simp
 exact h k _ _ hx e3 _ _ _ _ (hr.2 k _ v (by rw [denL_getElem,hx]; rfl) e2)
theorem fit2_ok (m:Nat):FitOK m (fit2 m):=by
 intro x y σ K h hf
 unfold fit2 at h
 split at h
 ·split at h
  ·obtain ⟨σ',h1,h2,h3,h4,h5⟩:=fitRow_ok (fit1_ok m) _ _ _ _ h hf
   refine ⟨σ',h1,h2,h3,fun σ'' hx S w ρ v hv => ?_⟩
   obtain ⟨vs,rfl,g1,g2⟩:=hv.agg_inv
   obtain ⟨e1,e2⟩:=turns_row h4 (h5 σ'' hx) ⟨g1,g2⟩
   exact .agg e1 e2
  ·exact h.elim
 ·split at h
  ·split at h
   ·rename_i hb
    have:=beq_true hb
    subst this
    obtain ⟨σ1,h1,h2,h3,h4,h5⟩:=fitRow_ok (fit1_ok m) _ _ _ _ h hf
    obtain ⟨σ2,g1,g2,g3,g4,g5⟩:=fitRow_ok (fit1_ok m) _ _ _ _ h1 h3
    refine ⟨σ2,g1,h2.trans g2,g3,fun σ'' hx S w ρ v hv => ?_⟩
    obtain ⟨us,vs,rfl,a1,a2,a3,a4⟩:=hv.fn_inv
    obtain ⟨e1,e2⟩:=turns_row h4 (h5 σ'' (g2.trans hx)) ⟨a1,a2⟩
    obtain ⟨e3,e4⟩:=turns_row g4 (g5 σ'' hx) ⟨a3,a4⟩
    exact .fn e1 e2 e3 e4
   ·exact h.elim
  ·exact h.elim
 ·exact fit1_ok m _ _ _ _ h hf
theorem fit3_ok (m:Nat):FitOK m (fit3 m):=by
 intro x y σ K h hf
 unfold fit3 at h
 split at h
 ·split at h
  ·obtain ⟨σ',h1,h2,h3,h4,h5⟩:=fitRow_ok (fit2_ok m) _ _ _ _ h hf
   refine ⟨σ',h1,h2,h3,fun σ'' hx S w ρ v hv => ?_⟩
   obtain ⟨vs,rfl,g1,g2⟩:=hv.tup_inv
   obtain ⟨e1,e2⟩:=turns_row h4 (h5 σ'' hx) ⟨g1,g2⟩
   exact .tup e1 e2
  ·exact h.elim
 ·exact fit2_ok m _ _ _ _ h hf
theorem fitA_ok {m:Nat} {A:SSlots} : ∀ (A':SSlots) (σ:Sg) (K:Sg→Prop),fitA m A A' σ K→Fair m σ → ∃ σ',K σ'∧Ext σ σ'∧Fair m σ'∧∀ σ'',Ext σ' σ''→∀ p ∈ A',Turns m σ'' (getS A p.1) p.2:=by
 intro A'
 induction A' with
 | nil=>intro σ K h hf; exact ⟨σ,h,.refl _,hf,fun _ _ p hp=>by cases hp⟩
 | cons p A' ih =>
  intro σ K h hf
  obtain ⟨σ1,h1,h2,h3,h4⟩:=fit3_ok m _ _ _ _ h hf
  obtain ⟨σ2,g1,g2,g3,g4⟩:=ih σ1 K h1 h3
  refine ⟨σ2,g1,h2.trans g2,g3,fun σ'' hx q hq => ?_⟩
  rcases List.mem_cons.1 hq with rfl | hq
  ·exact h4 _ (g2.trans hx)
  ·exact g4 _ hx q hq
def TurnsB (m:Nat) (σ:Sg) (x y:SBlk):Prop:=(y.den.live=true→x.den.live=true)∧∀ S w ρ o,BlkRel S w ρ o x.den→BlkRel S w (renS m σ ρ) o y.den
theorem leA_noid {x y:SV} (h:leA x y):y = .top∨noid1 y=true:=by
 unfold leA at h
 split at h
 ·exact .inr rfl
 ·unfold le0 at h
  split at h
  ·exact .inl rfl
  ·exact .inr rfl
  ·exact .inr rfl
  ·exact .inr rfl
  ·exact h.elim
theorem fitCh_ok:∀ {cs:List SV} {k:Nat} {g:Nat→List SV} {p:Prop},fitCh k cs g p→p∧∀ i c,cs[i]? = some c → ∃ y,g (k+i)=[y]∧leA c y
 | [],k,g,p,h=>⟨h,fun i c e=>by simp at e⟩
 | c :: cs,k,g,p,h=>by
  obtain ⟨h1,h2⟩:=h
  obtain ⟨h3,h4⟩:=fitCh_ok h2
  refine ⟨h3,fun i d e => ?_⟩
  cases i with
  | zero =>
   cases e
   rw [Nat.add_zero]
   match hg:g k,h1 with
   | [y],h1=>exact ⟨y,rfl,h1⟩
   | [],h1=>exact h1.elim
   | _ :: _ :: _,h1=>exact h1.elim
  | succ i =>
   obtain ⟨y,q1,q2⟩:=h4 i d e
   exact ⟨y,by rw [← q1]; congr 1; omega,q2⟩
theorem fitB_ok {m:Nat} {x y:SBlk} {σ:Sg} {K:Sg→Prop} (h:fitB m x y σ K) (hf:Fair m σ) : ∃ σ',K σ'∧Ext σ σ'∧Fair m σ'∧∀ σ'',Ext σ' σ''→TurnsB m σ'' x y:=by
 unfold fitB at h
 split at h
 ·exact ⟨σ,h,.refl _,hf,fun σ'' _=>⟨fun e=>(by cases e),fun _ _ _ _ _=>trivial⟩⟩
 ·split at h
  ·obtain ⟨σ',h1,h2,h3,h4,h5⟩:=fitRow_ok (fit2_ok m) _ _ _ _ h hf
   refine ⟨σ',h1,h2,h3,fun σ'' hx=>⟨fun _=>rfl,fun S w ρ o hb => ?_⟩⟩
   obtain ⟨n,vs,T,rfl,g1,g2,g3⟩:=hb
   obtain ⟨e1,e2⟩:=turns_row h4 (h5 σ'' hx) ⟨g2,g3⟩
   exact ⟨n,vs,T,rfl,g1,e1,e2⟩
  ·exact h.elim
 ·rename_i s' n' g
  split at h
  ·split at h
   ·rename_i hs
    have:=beq_true hs
    subst this
    obtain ⟨hn,hr,h⟩:=h
    refine ⟨σ,h,.refl _,hf,fun σ'' hx=>⟨fun _=>rfl,fun S w ρ o hb => ?_⟩⟩
    exact (Blk.le.row (rows_le (fun k hk=>leRow_ok leA_ok _ _ (hr k hk)))).2 _ _ _ _ ((Blk.le.rowPre hn).2 _ _ _ _ (show BlkRel S w (renS m σ'' ρ) o (Blk.row _ _) from hb))
   ·exact h.elim
  ·rename_i cs
   split at h
   ·rename_i hs
    have hs:=Nat.eq_of_beq_eq_true hs
    subst hs
    split at h
    ·rename_i hl
     have hl:=Nat.eq_of_beq_eq_true hl
     obtain ⟨h1,h2⟩:=fitCh_ok h
     refine ⟨σ,h1,.refl _,hf,fun σ'' hx=>⟨fun _=>rfl,fun S w ρ o hb => ?_⟩⟩
     obtain ⟨b,vs,T,rfl,g1,g2,g3⟩:=hb
     have hrow:∀ (k:Nat) ds,(rowsOf n' g)[k]? = some ds → ∃ c y,cs[k]? = some c∧ds=[y.den]∧leA c y:=fun k ds e=>by
      rw [rowsOf_get] at e
      split at e
      ·rename_i hk
       have hk':k<cs.length:=by omega
       obtain ⟨y,e1,e2⟩:=h2 k cs[k] (by simp)
       rw [Nat.zero_add] at e1
       cases e
       exact ⟨cs[k],y,by simp,by rw [e1]; rfl,e2⟩
      ·cases e
     refine ⟨by omega,fun k ds e => ?_,.inr ⟨b,vs,T,rfl,g1,fun k j ds c e1 e2 => ?_⟩⟩
     ·obtain ⟨c,y,-,rfl,-⟩:=hrow k ds e; rfl
     ·obtain ⟨x,y,q1,rfl,q2⟩:=hrow k ds e1
      have hj:j=0:=by
       have:=(List.getElem?_eq_some_iff.1 e2).1
       simpa using this
      subst hj
      cases e2
      have hlt:k<vs.size:=by rw [g2,denL_length]; exact (List.getElem?_eq_some_iff.1 q1).1
      refine ⟨vs[k],by simp,?_⟩
      have hr:=g3 k x.den vs[k] (by rw [denL_getElem,q1]; rfl) (by simp)
      have hy:=leA_ok _ _ q2 _ _ _ _ hr
      rcases leA_noid q2 with rfl | hn
      ·exact .top _
      ·exact hy.idless (noid1_idless hn)
    ·exact h.elim
   ·exact h.elim
  ·exact h.elim
theorem fitH_ok {m:Nat} {H:SBlks} : ∀ (H':SBlks) (σ:Sg) (K:Sg→Prop),fitH m H H' σ K→Fair m σ → ∃ σ',K σ'∧Ext σ σ'∧Fair m σ'∧∀ σ'',Ext σ' σ''→∀ p ∈ H',
  (∃ i c,(p.1<m∧i=p.1∨m≤p.1∧sgAt σ'' p.1=some (some i))∧getB H i=some c∧TurnsB m σ'' c p.2)∨(m≤p.1∧sgAt σ'' p.1=some none ∧ ∃ sz f,0<sz∧p.2 = .row sz 0 f):=by
 intro H'
 induction H' with
 | nil=>intro σ K h hf; exact ⟨σ,h,.refl _,hf,fun _ _ p hp=>by cases hp⟩
 | cons p H' ih =>
  intro σ K h hf
  have go:∀ (i:Nat) (c:SBlk),getB H i=some c→(p.1<m∧i=p.1∨m≤p.1∧sgAt σ p.1=some (some i))→(fitB m c p.2 σ fun σ=>fitH m H H' σ K) → ∃ σ',K σ'∧Ext σ σ'∧Fair m σ'∧∀ σ'',Ext σ' σ''→∀ q ∈ p :: H',
    (∃ i c,(q.1<m∧i=q.1∨m≤q.1∧sgAt σ'' q.1=some (some i))∧getB H i=some c∧TurnsB m σ'' c q.2)∨(m≤q.1∧sgAt σ'' q.1=some none ∧ ∃ sz f,0<sz∧q.2 = .row sz 0 f):=by
   intro i c hc hi hb
   obtain ⟨σ1,h1,h2,h3,h4⟩:=fitB_ok hb hf
   obtain ⟨σ2,g1,g2,g3,g4⟩:=ih σ1 K h1 h3
   refine ⟨σ2,g1,h2.trans g2,g3,fun σ'' hx q hq => ?_⟩
   rcases List.mem_cons.1 hq with rfl | hq
   ·exact .inl ⟨i,c,hi.imp id (fun e=>⟨e.1,(h2.trans (g2.trans hx)) _ _ e.2⟩),hc,h4 _ (g2.trans hx)⟩
   ·exact g4 _ hx q hq
  simp only [fitH] at h
  split at h
  ·rename_i hj
   split at h
   ·rename_i c hc; exact go _ c hc (.inl ⟨blt_true hj,rfl⟩) h
   ·exact h.elim
  ·rename_i hj
   split at h
   ·rename_i i hi
    split at h
    ·rename_i c hc; exact go i c hc (.inr ⟨blt_false hj,hi⟩) h
    ·exact h.elim
   ·rename_i hi
    split at h
    ·rename_i sz n f hb
     split at h
     ·rename_i hs
      obtain ⟨rfl,h⟩:=h
      obtain ⟨σ2,g1,g2,g3,g4⟩:=ih σ K h hf
      refine ⟨σ2,g1,g2,g3,fun σ'' hx q hq => ?_⟩
      rcases List.mem_cons.1 hq with rfl | hq
      ·exact .inr ⟨blt_false hj,(g2.trans hx) _ _ hi,sz,f,blt_true hs,hb⟩
      ·exact g4 _ hx q hq
     ·exact h.elim
    ·exact h.elim
   ·exact h.elim
theorem getB_mem {H:SBlks} {j:Nat} {b:SBlk} (h:getB H j=some b):(j,b) ∈ H:=by
 induction H with
 | nil=>cases h
 | cons p H ih =>
  simp only [getB] at h
  split at h
  ·rename_i e; cases h; rw [← beq_true e]; simp
  ·exact List.mem_cons_of_mem _ (ih h)
theorem getS_mem {A:SSlots} {t:Nat} : getS A t = .top∨(t,getS A t) ∈ A:=by
 induction A with
 | nil=>exact .inl rfl
 | cons p A ih =>
  simp only [getS]
  split
  ·rename_i e; exact .inr (by rw [← beq_true e]; simp)
  ·exact ih.imp id (fun h=>List.mem_cons_of_mem _ h)
theorem denH_inv {H:SBlks} {j:Nat} {k:Blk} (h:getH (denB H) j=some k) : ∃ b,getB H j=some b∧k=b.den:=by
 rw [getH_den,denH] at h
 cases hb:getB H j with
 | none=>rw [hb] at h; cases h
 | some b=>rw [hb] at h; cases h; exact ⟨b,rfl,rfl⟩
theorem fitM_ok {C:Ctx} {N m:Nat} {ρ:Names} {S:Nat→Prop} {A A':SSlots} {H H':SBlks} {nx n':Nat} {w:World} (h0:∀ i,m≤i→C.ρ0 i=none)
  (hm:Mem C ρ S (getH (denB H)) (fun i=>nx≤i) w) (h:fit N m A H A' H' n') :
  ∃ ρ',Mem C ρ' S (getH (denB H')) (fun i=>n'≤i) w∧(∀ t v,Rel S w ρ (getA (denA A) t) v→Rel S w ρ' (getA (denA A') t) v)∧∀ t,N≤t→getA (denA A') t = .top:=by
 obtain ⟨σ1,h1,-,h3,h4⟩:=fitA_ok _ _ _ h ⟨fun j j' i e=>(by cases e),fun j i e=>(by cases e)⟩
 obtain ⟨σ,g1,g2,g3,g4⟩:=fitH_ok _ _ _ h1 h3
 have hA:=h4 σ g2
 have hH:=g4 σ (.refl _)
 split at g1
 ·rename_i hck
  simp only [Bool.and_eq_true] at hck
  obtain ⟨⟨⟨c1,c2⟩,c3⟩,c4⟩:=hck
  have c4:=Nat.le_of_ble_eq_true c4
  have hσ:∀ j v,sgAt σ j=some v→j<n':=fun j v e=>blt_true (List.all_eq_true.1 c1 _ (sgAt_mem e))
  have hB:∀ j b,getB H' j=some b→j<n':=fun j b e=>blt_true (List.all_eq_true.1 c2 _ (getB_mem e))
  -- where a new name comes from
  have src:∀ j b,renS m σ ρ j=some b → ∃ i,ρ i=some b∧(j<m∧i=j∨m≤j∧m≤i∧sgAt σ j=some (some i)):=fun j b e=>by
   unfold renS at e
   split at e
   ·rename_i hj; exact ⟨j,e,.inl ⟨hj,rfl⟩⟩
   ·rename_i hj
    split at e
    ·rename_i i hi; exact ⟨i,e,.inr ⟨Nat.not_lt.1 hj,g3.low _ _ hi,hi⟩⟩
    ·cases e
  have blk:∀ j k,getH (denB H') j=some k→(∃ i x,getH (denB H) i=some x∧renS m σ ρ j=ρ i∧(k.live=true→x.live=true)∧((j<m∧i=j)∨(m≤j∧m≤i∧sgAt σ j=some (some i)))∧(∀ S w o,BlkRel S w ρ o x→BlkRel S w (renS m σ ρ) o k)) ∨
    (m≤j∧renS m σ ρ j=none ∧ ∃ sz,0<sz∧k = .row sz []):=fun j k e=>by
   obtain ⟨b,hb,rfl⟩:=denH_inv e
   rcases hH _ (getB_mem hb) with ⟨i,c,hi,hc,ht1,ht2⟩ | ⟨h5,h6,sz,f,h7,h8⟩
   ·refine .inl ⟨i,c.den,by rw [getH_den]; exact denH_some hc,?_,ht1,hi.imp id (fun e=>⟨e.1,g3.low _ _ e.2,e.2⟩),fun S w o=>ht2 S w ρ o⟩
    rcases hi with ⟨h5,rfl⟩ | ⟨h5,h6⟩
    ·simp only at h5; simp [renS,h5]
    ·simp only at h5 h6; simp [renS,Nat.not_lt.2 h5,h6]
   ·simp only at h5 h6 h8
    exact .inr ⟨h5,by simp [renS,Nat.not_lt.2 h5,h6],sz,h7,by rw [h8]; simp [SBlk.den,rowsOf]⟩
  have same:∀ i j i' j',((j<m∧i=j)∨(m≤j∧m≤i∧sgAt σ j=some (some i)))→((j'<m∧i'=j')∨(m≤j'∧m≤i'∧sgAt σ j'=some (some i')))→i=i'→j=j':=fun i j i' j' a b e=>by
   rcases a with ⟨a1,a2⟩ | ⟨a1,a2,a3⟩ <;> rcases b with ⟨b1,b2⟩ | ⟨b1,b2,b3⟩
   ·omega
   ·omega
   ·omega
   ·subst e; exact g3.inj _ _ _ a3 b3
  refine ⟨renS m σ ρ,⟨hm.size,hm.shape,hm.old,fun i b e => ?_,hm.s0,hm.snew,hm.sin,fun i b e => ?_,fun j k b e hl e' => ?_,fun j j' k l b e1 l1 e2 l2 r1 r2 => ?_,fun j k e => ?_,fun j hj => ?_,hm.keep⟩,fun t v hv => ?_,fun t ht => ?_⟩
  ·rcases Nat.lt_or_ge i m with hi | hi
   ·simp only [renS,hi,if_true]; exact hm.ent i b e
   ·rw [h0 i hi] at e; cases e
  ·obtain ⟨j,hj,-⟩:=src i b e
   exact hm.rin j b hj
  ·rcases blk j k e with ⟨i,x,hx,hren,hlive,-,-⟩ | ⟨-,hnone,-⟩
   ·exact hm.own i x b hx (hlive hl) (by rw [← hren]; exact e')
   ·rw [hnone] at e'; cases e'
  ·rcases blk j k e1 with ⟨i,x,hx,hren,hlive,hs,-⟩ | ⟨-,hnone,-⟩
   ·rcases blk j' l e2 with ⟨i',x',hx',hren',hlive',hs',-⟩ | ⟨-,hnone,-⟩
    ·exact same _ _ _ _ hs hs' (hm.inj i i' x x' b hx (hlive l1) hx' (hlive' l2) (by rw [← hren]; exact r1) (by rw [← hren']; exact r2))
    ·rw [hnone] at r2; cases r2
   ·rw [hnone] at r1; cases r1
  ·rcases blk j k e with ⟨i,x,hx,hren,hlive,-,ht⟩ | ⟨-,hnone,sz,h5,rfl⟩
   ·rw [hren]; exact ht _ _ _ (hm.blk i x hx)
   ·rw [hnone]; exact ⟨h5,fun k cs e=>by simp at e,.inl ⟨rfl,rfl⟩⟩
  ·constructor
   ·cases hb:getH (denB H') j with
    | none=>rfl
    | some k =>
     obtain ⟨b,hb',-⟩:=denH_inv hb
     have:=hB j b hb'
     omega
   ·have hjm:¬ j<m:=by omega
    simp only [renS,hjm,if_false]
    cases hs:sgAt σ j with
    | none=>rfl
    | some v=>have:=hσ j v hs; omega
  ·rw [getA_den] at hv ⊢
   rcases getS_mem (A:=A') (t:=t) with e' | e'
   ·rw [e']; exact .top v
   ·exact hA _ e' _ _ _ _ hv
  ·rw [getA_den]
   rcases getS_mem (A:=A') (t:=t) with e' | e'
   ·rw [e']; rfl
   ·have:=blt_true (List.all_eq_true.1 c3 _ e')
    simp only at this
    omega
 ·exact g1.elim
theorem fit_ok {C:Ctx} {N m:Nat} {ρ:Names} {S:Nat→Prop} {A A':SSlots} {H H':SBlks} {nx n':Nat} {a:Act} {w:World} (h0:∀ i,m≤i→C.ρ0 i=none)
  (hr:Rep C N ρ S (getA (denA A)) (getH (denB H)) (fun i=>nx≤i) a w) (h:fit N m A H A' H' n') :
  ∃ ρ',Rep C N ρ' S (getA (denA A')) (getH (denB H')) (fun i=>n'≤i) a w∧∀ t,N≤t→getA (denA A') t = .top:=by
 obtain ⟨ρ',h1,h2,h3⟩:=fitM_ok h0 hr.mem h
 exact ⟨ρ',⟨h1,hr.size,fun t v e=>h2 t v (hr.slots t v e),hr.marks,hr.dk⟩,h3⟩
end Go.Proofs.Ytoncoofmijjgeaa.Sep
namespace Go.Proofs.Ytoncoofmijjgeaa.Sep
open Go
set_option linter.unusedVariables false
set_option linter.unusedSimpArgs false
structure LoopS where
 ι:Type
 β:Type
 pre:ι→Prop
 μ:ι→Nat
 next:ι→SSlots→SBlks→Cnt→ι
 out:ι→β
 early:β→Bool
 SA:ι→SSlots
 SH:ι→SBlks
 n0:Nat
 g0:ι→Nat × Bool:=fun _=>(0,false)
 NA:β→SSlots
 NH:β→SBlks
 n1:Nat
 RA:β→SSlots
 RH:β→SBlks
 gN:β→Nat→Bool→Prop:=fun _ _ _=>True
 gR:β→Nat→Bool→Prop:=fun _ _ _=>False
def gOK (on:Bool) (nx:Cnt) (g:Nat × Bool) (p:Prop):Prop:=match on with
 | false=>p
 | true=>nx.k=g.1∧nx.go=g.2∧p
theorem gOK_ok {P:Program} {ys:YS} {Y:YEnv P ys} {nx:Cnt} {g:Nat × Bool} {p:Prop} {C:Ctx} (h:gOK ys.on nx g p) (hg:Y.G nx.k nx.go C):p∧Y.G g.1 g.2 C:=by
 unfold gOK at h
 split at h
 ·rename_i ho; exact ⟨h,Y.off ho hg⟩
 ·obtain ⟨h1,h2,h3⟩:=h; rw [← h1,← h2]; exact ⟨h3,hg⟩
def gOK' (on:Bool) (nx:Cnt) (g:Nat→Bool→Prop) (b p:Prop):Prop:=match on with
 | false=>b∧p
 | true=>g nx.k nx.go∧p
def gAll (on:Bool) (n:Nat) (g:Nat→Bool→Prop) (b:Prop) (K:Cnt→Prop):Prop:=match on with
 | false=>b→K ⟨n,0,false⟩
 | true=>∀ k go,g k go→K ⟨n,k,go⟩
def gWas (on:Bool) (nx:Cnt) (n:Nat) (g:Nat→Bool→Prop) (b:Prop):Prop:=match on with
 | false=>b∧nx=⟨n,0,false⟩
 | true=>nx.n=n∧g nx.k nx.go
theorem gOK'_ok {P:Program} {ys:YS} {Y:YEnv P ys} {nx:Cnt} {g:Nat→Bool→Prop} {b p:Prop} {C:Ctx} (n:Nat) (h:gOK' ys.on nx g b p) (hg:Y.G nx.k nx.go C):p ∧ ∃ nx':Cnt,nx'.n=n∧gWas ys.on nx' n g b∧Y.G nx'.k nx'.go C:=by
 unfold gOK' at h
 unfold gWas
 split at h
 ·rename_i ho; exact ⟨h.2,⟨n,0,false⟩,rfl,⟨h.1,rfl⟩,Y.off ho hg⟩
 ·rename_i ho; exact ⟨h.2,⟨n,nx.k,nx.go⟩,rfl,⟨rfl,h.1⟩,hg⟩
theorem gAll_ok {on:Bool} {n:Nat} {g:Nat→Bool→Prop} {b:Prop} {K:Cnt→Prop} (h:gAll on n g b K) {nx:Cnt} (hw:gWas on nx n g b):K nx:=by
 cases on
 ·have hw:b∧nx=⟨n,0,false⟩:=hw
  rw [hw.2]; exact h hw.1
 ·have hw:nx.n=n∧g nx.k nx.go:=hw
  obtain ⟨k,j,go⟩:=nx
  obtain ⟨rfl,h2⟩:=hw
  exact h j go h2
def roundQ (on:Bool) (N m:Nat) (id:Nat) (l:LoopS) (i:l.ι):SPost:=fun e A H nx =>
 match e with
 | .normal=>l.pre (l.next i A H nx)∧l.μ (l.next i A H nx)<l.μ i∧l.out (l.next i A H nx)=l.out i∧gOK on nx (l.g0 (l.next i A H nx)) (fit N m A H (l.SA (l.next i A H nx)) (l.SH (l.next i A H nx)) l.n0)
 | .exit k=>match Nat.beq k id with
  | true=>gOK' on nx (l.gN (l.out i)) (l.early (l.out i)=false) (fit N m A H (l.NA (l.out i)) (l.NH (l.out i)) l.n1)
  | false=>False
 | .ret=>gOK' on nx (l.gR (l.out i)) (l.early (l.out i)=true) (fit N m A H (l.RA (l.out i)) (l.RH (l.out i)) l.n1)
 | _=>False
def loopQ (on:Bool) (l:LoopS) (i:l.ι):SPost:=fun e A H nx =>
 (e = .normal∧gWas on nx l.n1 (l.gN (l.out i)) (l.early (l.out i)=false)∧A=l.NA (l.out i)∧H=l.NH (l.out i))∨(e = .ret∧gWas on nx l.n1 (l.gR (l.out i)) (l.early (l.out i)=true)∧A=l.RA (l.out i)∧H=l.RH (l.out i))
def loopT (on:Bool) (N m:Nat) (l:LoopS) (par:SSlots→SBlks→Cnt→l.ι) (Q:SPost) (A:SSlots) (H:SBlks) (nx:Cnt):Prop :=
 l.pre (par A H nx)∧gOK on nx (l.g0 (par A H nx)) (fit N m A H (l.SA (par A H nx)) (l.SH (par A H nx)) l.n0) ∧
  gAll on l.n1 (l.gN (l.out (par A H nx))) (l.early (l.out (par A H nx))=false) (Q .normal (l.NA (l.out (par A H nx))) (l.NH (l.out (par A H nx)))) ∧
  gAll on l.n1 (l.gR (l.out (par A H nx))) (l.early (l.out (par A H nx))=true) (Q .ret (l.RA (l.out (par A H nx))) (l.RH (l.out (par A H nx))))
section
variable {P : Program} {ys : YS} {Y : YEnv P ys} {F : Fence} {N m id : Nat} {c : Code}
theorem WPS.fit {Q:SPost} {A A':SSlots} {H H':SBlks} {nx:Cnt} {n':Nat} {g:Nat × Bool} (h:WPS Y F N m c Q A' H' ⟨n',g.1,g.2⟩) (hf:gOK ys.on nx g (fit N m A H A' H' n')):WPS Y F N m c Q A H nx:=fun C ρ S a w h0 hg hr _=>by
 obtain ⟨hf,hg'⟩:=gOK_ok hf hg
 obtain ⟨ρ',h1,h2⟩:=fit_ok h0 hr hf
 exact h C ρ' S a w h0 hg' h1 h2
theorem loop_ok {l:LoopS} (h:∀ i,l.pre i→WPS Y F N m c (roundQ ys.on N m id l i) (l.SA i) (l.SH i) ⟨l.n0,(l.g0 i).1,(l.g0 i).2⟩):∀ i,l.pre i→WPS Y F N m (.block id (.loop c)) (loopQ ys.on l i) (l.SA i) (l.SH i) ⟨l.n0,(l.g0 i).1,(l.g0 i).2⟩:=by
 intro i0 hp C0 ρ S a w h0 hg hr ht
 refine wpIn_block (wpIn_loop_rounds (l.μ i0+1) ?_)
 have key:∀ (n:Nat) (i:l.ι) (C:Ctx) (ρ:Names) (S:Nat→Prop) (a:Act) (w:World),C0.Le C→l.μ i<n→l.pre i→l.out i=l.out i0→Y.G (l.g0 i).1 (l.g0 i).2 C→Rep C N ρ S (getA (denA (l.SA i))) (getH (denB (l.SH i))) (fun k=>l.n0≤k) a w→(∀ t,N≤t→getA (denA (l.SA i)) t = .top) →
   Code.roundsIn F 0 P c (Exit.inBlock id (EndS Y N C0 (loopQ ys.on l i0))) n a w:=by
  intro n
  induction n with
  | zero=>intro i C ρ S a w _ hn; omega
  | succ n ih =>
   intro i C ρ S a w hC hn hp ho hg hr ht
   rw [roundsIn_succ]
   have h0':∀ i,m≤i→C.ρ0 i=none:=by rw [hC.ρ0]; exact h0
   refine wpIn_mono (h i hp C ρ S a w h0' hg hr ht) ?_
   rintro e a' w' ⟨C',ρ',S',A',H',nx',hC',hg',hr',ht',SA,SH,rfl,rfl,hq⟩
   have h0'':∀ i,m≤i→C'.ρ0 i=none:=by rw [hC'.ρ0]; exact h0'
   unfold roundQ at hq
   split at hq
   ·obtain ⟨h1,h2,h3,h4⟩:=hq
    obtain ⟨h4,hg2⟩:=gOK_ok h4 hg'
    obtain ⟨ρ'',h5,h6⟩:=fit_ok h0'' hr' h4
    exact ih _ C' ρ'' S' a' w' (hC.trans hC') (by omega) h1 (h3.trans ho) hg2 h5 h6
   ·rename_i k
    split at hq
    ·rename_i hk
     have:=beq_true hk
     subst this
     obtain ⟨h2,nx2,hn2,hw2,hg2⟩:=gOK'_ok l.n1 hq hg'
     obtain ⟨ρ'',h5,h6⟩:=fit_ok h0'' hr' h2
     rw [ho] at hw2 h5 h6
     rw [← hn2] at h5
     simp only [Exit.then,Exit.inBlock,if_true]
     exact ⟨C',ρ'',S',_,_,nx2,hC.trans hC',hg2,h5,h6,l.NA (l.out i0),l.NH (l.out i0),rfl,rfl,.inl ⟨rfl,hw2,rfl,rfl⟩⟩
    ·exact hq.elim
   ·obtain ⟨h2,nx2,hn2,hw2,hg2⟩:=gOK'_ok l.n1 hq hg'
    obtain ⟨ρ'',h5,h6⟩:=fit_ok h0'' hr' h2
    rw [ho] at hw2 h5 h6
    rw [← hn2] at h5
    simp only [Exit.then,Exit.inBlock]
    exact ⟨C',ρ'',S',_,_,nx2,hC.trans hC',hg2,h5,h6,l.RA (l.out i0),l.RH (l.out i0),rfl,rfl,.inr ⟨rfl,hw2,rfl,rfl⟩⟩
   ·exact hq.elim
 exact key _ i0 C0 ρ S a w (.refl _) (Nat.lt_succ_self _) hp rfl hg hr ht
theorem loopT_ok {l:LoopS} {par:SSlots→SBlks→Cnt→l.ι} (h:∀ i,l.pre i→WPS Y F N m c (roundQ ys.on N m id l i) (l.SA i) (l.SH i) ⟨l.n0,(l.g0 i).1,(l.g0 i).2⟩) :
  ∀ Q A H nx,loopT ys.on N m l par Q A H nx→WPS Y F N m (.block id (.loop c)) Q A H nx:=by
 rintro Q A H nx ⟨h1,h2,h3,h4⟩
 refine WPS.fit (WPS.mono (loop_ok h _ h1) ?_) h2
 rintro e A' H' nx' (⟨rfl,h5,rfl,rfl⟩ | ⟨rfl,h5,rfl,rfl⟩)
 ·exact gAll_ok h3 h5
 ·exact gAll_ok h4 h5
end
theorem LoopsOK.nil {P:Program} {ys:YS} {Y:YEnv P ys} {F:Fence} {N m:Nat} {code:Code} : LoopsOK Y F N m [] code:=fun p hp=>by cases hp
theorem LoopsOK.cons {P:Program} {ys:YS} {Y:YEnv P ys} {F:Fence} {N m id:Nat} {code c:Code} {T:SPost→SSlots→SBlks→Cnt→Prop} {LO:Loops} (hb:blksOf id code=[c]) (h:∀ Q A H nx,T Q A H nx→WPS Y F N m (.block id c) Q A H nx) (hL:LoopsOK Y F N m LO code) :
  LoopsOK Y F N m ((id,T) :: LO) code:=by
 intro p hp
 rcases List.mem_cons.1 hp with rfl | hp
 ·intro c' hc'
  simp only [hb,List.mem_singleton] at hc'
  subst hc'
  exact h
 ·exact hL p hp
def blkOf (id:Nat) (code:Code):Code:=match blksOf id code with
 | c :: _=>c
 | []=>.skip
def loopOf (id:Nat) (code:Code):Code:=match blkOf id code with
 | .loop c=>c
 | _=>.skip
theorem LoopsOK.loop {P:Program} {E:Eqs} (hE:EqsOK P E) {O:Orc} (hO:OrcOK P O) (hmix:P.follows .mixedOrders=true) {ck:Bool} {ys:YS} {Y:YEnv P ys} {L:List Nat} {LO LI:Loops} {F:Fence} (hF:FOK F) {N m id:Nat} {code:Code} {l:LoopS} {par:SSlots→SBlks→Cnt→l.ι}
  (hb:blksOf id code=[.loop (loopOf id code)]) (hI:LoopsOK Y F N m LI (loopOf id code)) (hL:LoopsOK Y F N m LO code)
  (h:∀ i,l.pre i→vcS P E O ck ys N L LI (loopOf id code) (roundQ ys.on N m id l i) (l.SA i) (l.SH i) ⟨l.n0,(l.g0 i).1,(l.g0 i).2⟩):LoopsOK Y F N m ((id,loopT ys.on N m l par) :: LO) code :=
 .cons hb (loopT_ok fun i hp=>vcS_sound hE hO hF hmix _ hI _ _ _ _ (h i hp)) hL
end Go.Proofs.Ytoncoofmijjgeaa.Sep
namespace Go.Proofs.Ytoncoofmijjgeaa.Sep
open Go
set_option linter.unusedVariables false
set_option linter.unusedSimpArgs false
def Iter (P:Program) (g:FuncId) (xs:List SV) (n:Nat) (f:Nat→List SV):Prop :=
 Ent P g∧(∀ k,AV.idlessL (SV.denL (f k))=true)∧∀ (S0:Nat→Prop) (W0:World) (vs:Array Value),(∀ b,S0 b→b<W0.heap.size)→RelCs S0 W0 noNames (SV.denL xs) vs →
  ∀ (l:Nat) (J:Nat→Bool→(Nat→Prop)→(Nat→Prop)→World→Prop),
   (∀ {k go X X' Z W W'},J k go X Z W→W.heap.size≤W'.heap.size→(∀ b s,shp W b=some s→shp W' b=some s)→(∀ b,b<W.heap.size→¬ X b→W'.heap[b]? = W.heap[b]?)→(∀ b vs T fz,Z b→W.heap[b]? = some (.cells vs T fz)→W'.heap[b]? = some (.cells vs T fz)) →
    (∀ b,X b→X' b)→(∀ b,X' b→X b∨(W.heap.size≤b∧b<W'.heap.size))→J k go X' Z W') →
   (∀ {k X Z S W args},k<n→J k true X Z W→(∀ b,Z b→S b)→(∀ b,S b→(S0 b∨X b)∧b<W.heap.size)→RelCs S W noNames (SV.denL (f k)) args →
    YieldAt Fence.wide 0 P l args W fun e W' => ∃ b,e = .returned (.bool b)∧W.heap.size≤W'.heap.size∧(∀ b s,shp W b=some s→shp W' b=some s)∧(∀ b vs T fz,S b→W.heap[b]? = some (.cells vs T fz)→W'.heap[b]? = some (.cells vs T fz))∧(∀ b,X b→W'.heap[b]? = W.heap[b]?) ∧
     (∀ n:Nat,W.heap[n]? = some (.deferred (some []))→W'.heap[n]? = some (.deferred (some [])))∧J (k+1) b X S W') →
   J 0 true (fun _=>False) S0 W0 →
   Calls P g (#[.func (.yield l) #[] #[]] ++ vs) W0 fun e W' => ∃ v k go X Z,e = .returned v∧J k go X Z W'∧(go=true→k=n)
def retI (rs:List ResultVar) (n:Nat):SPost:=fun e _ _ nx =>
 match e with
 | .normal | .ret =>
  match rs with
  | []=>nx.go=true→nx.k=n
  | _=>False
 | _=>False
theorem Iter.enterS {P:Program} {E:Eqs} (hE:EqsOK P E) {O:Orc} (hO:OrcOK P O) (hmix:P.follows .mixedOrders=true) (ck:Bool) (L:List Nat) (LO:Nat→Loops) {g:FuncId} {fn:Func} {code:Code} {xs:List SV} {n:Nat} {f:Nat→List SV}
  (hf : P.funcs[g]? = some fn) (hn : (fn.name == "runtime.NumGoroutine") = false) (hb : fn.body = some code) (hxs : xs.length + 1 ≤ fn.ntmps) (hidl : ∀ k, AV.idlessL (SV.denL (f k)) = true) (hL : ∀ l (Y : YEnv P ⟨true, l, n, f⟩), LoopsOK Y Fence.wide fn.ntmps 0 (LO l) code)
  (h:∀ l,vcS P E O ck ⟨true,l,n,f⟩ fn.ntmps L (LO l) code (retI fn.results.toList n) (argsS 0 (.lit (.func (.yield l) #[] #[]) :: xs)) [] ⟨0,0,true⟩):Iter P g xs n f:=by
 refine ⟨Ent.of hf hn (by rw [hb]; rfl),hidl,fun S0 W0 vs hS0 hargs l J hJ hY hJ0 => ?_⟩
 refine callsIn_wide.1 (callsIn_of_wp_marks (F:=Fence.wide) (n:=0) hf hb trivial ?_)
 have hsz:vs.size=xs.length:=by rw [hargs.1,denL_length]
 let C0:Ctx:=⟨W0,noNames,S0,fun _=>False,fun _=>False⟩
 let Y:YEnv P ⟨true,l,n,f⟩ := {
  G:=fun k go C=>(∃ Z,J k go C.X Z C.w0∧∀ b,Z b→C.S0 b)∧(∀ b,C.O b→C.X b)∧(∀ b,C.S0 b→S0 b∨C.X b)
  re:=fun {k go C C'} hg hre=>by
   obtain ⟨⟨Z,h1,h2⟩,h3,h4⟩:=hg
   refine ⟨⟨Z,hJ h1 hre.size hre.shape hre.old (fun b vs T fz e=>hre.keep b vs T fz (h2 b e)) hre.x hre.x1,fun b e=>hre.s0 b (h2 b e)⟩,hre.ox,fun b e => ?_⟩
   rcases hre.s3 b e with h5 | h5
   ·exact (h4 b h5).imp id (hre.x b)
   ·exact .inr h5
  ox:=fun hg=>hg.2.1
  off:=fun e=>by cases e
  idl:=hidl
  call:=fun {k C args} _ hk hg hs hr=>by
   obtain ⟨⟨Z,h1,h2⟩,h3,h4⟩:=hg
   obtain ⟨fn,tmps,assign,body,h5,h6⟩:=hY hk h1 h2 (fun b e=>⟨h4 b e,hs b e⟩) hr
   refine ⟨fn,tmps,assign,body,h5,h6.mono ?_⟩
   rintro e W' ⟨b,e1,e2,e3,e4,e5,e6,e7⟩
   exact ⟨b,e1,e2,e3,e4,e5,e6,⟨C.S0,e7,fun _ e=>e⟩,h3,h4⟩ }
 have hG:Y.G 0 true C0:=⟨⟨S0,hJ0,fun _ e=>e⟩,fun _ e=>e,fun _ e=>.inl e⟩
 have hsl:∀ (t:Nat) v,(#[Value.func (.yield l) #[] #[]] ++ vs)[t]? = some v→Rel S0 W0 noNames ((SV.denL (.lit (.func (.yield l) #[] #[]) :: xs)).getD t .top) v:=fun t v e=>by
  cases t with
  | zero =>
   rw [Array.getElem?_append_left (by simp)] at e
   have e:some (Value.func (.yield l) #[] #[])=some v:=e
   cases e
   exact .lit _
  | succ t =>
   rw [Array.getElem?_append_right (by simp)] at e
   have e:vs[t]? = some v:=e
   have:t<(SV.denL xs).length:=by rw [denL_length,← hsz]; exact (Array.getElem?_eq_some_iff.1 e).1
   simp only [SV.denL,List.getD_cons_succ]
   exact hargs.2 t _ v (by simp [List.getD,this]) e
 have hrep:Rep C0 fn.ntmps noNames S0 (getA (denA (argsS 0 (.lit (.func (.yield l) #[] #[]) :: xs)))) (getH (denB [])) (fun i=>0≤i) { tmps:=(#[.func (.yield l) #[] #[]] ++ vs) ++ Array.replicate (fn.ntmps-(#[Value.func (.yield l) #[] #[]] ++ vs).size) undef,defers:=[] } W0:=by
  rw [denA_argsS]
  refine ⟨⟨Nat.le_refl _,fun _ _ e=>e,fun _ _ _=>rfl,Names.le.refl _,fun _ e=>e,fun _ e=>.inl e,hS0,fun i b e=>(by cases e),fun i k b e=>(by cases e),fun i j k l b e=>(by cases e),fun i k e=>(by cases e),fun i _=>⟨rfl,rfl⟩,fun _ _ _ _ _ e=>e⟩,by simp [hsz]; omega,fun t v e => ?_,⟨[],rfl,List.nodup_nil,fun n hn=>by cases hn⟩,fun _ e=>e⟩
  rw [getA_argsA]
  simp only [Nat.zero_le,if_true,Nat.sub_zero]
  rcases Nat.lt_or_ge t (#[Value.func (.yield l) #[] #[]] ++ vs).size with hlt | hge
  ·rw [Array.getElem?_append_left hlt] at e
   exact hsl t v e
  ·rw [show (SV.denL (.lit (.func (.yield l) #[] #[]) :: xs)).getD t .top = .top by
    simp [List.getD,List.getElem?_eq_none (show (SV.denL (.lit (.func (.yield l) #[] #[]) :: xs)).length≤t by rw [denL_length]; simp at hge ⊢; omega)]]
   exact .top _
 have hw:=vcS_sound hE hO FOK.wide hmix (Y:=Y) code (hL l Y) _ _ _ _ (h l)
 refine wpIn_mono (hw C0 noNames S0 _ W0 (fun i hi=>rfl) hG hrep (fun t ht => ?_)) ?_
 ·rw [denA_argsS,getA_argsA]
  simp only [Nat.zero_le,if_true,Nat.sub_zero]
  simp [List.getD,List.getElem?_eq_none (show (SV.denL (.lit (.func (.yield l) #[] #[]) :: xs)).length≤t by rw [denL_length]; simp; omega)]
 ·rintro e a' w' ⟨C',ρ',S',A',H',nx',hC,hg',hr',ht',SA,SH,rfl,rfl,hret⟩
  have hret':(e = .normal∨e = .ret)∧fn.results.toList=[]∧(nx'.go=true→nx'.k=n):=by
   unfold retI at hret
   split at hret
   ·split at hret
    ·rename_i hr; exact ⟨.inl rfl,hr,hret⟩
    ·exact hret.elim
   ·split at hret
    ·rename_i hr; exact ⟨.inr rfl,hr,hret⟩
    ·exact hret.elim
   ·exact hret.elim
  obtain ⟨he,hres,hfin⟩:=hret'
  have hend:LeavesInM Fence.wide 0 P fn a'.tmps (fun e W' => ∃ v k go X Z,e = .returned v∧J k go X Z W'∧(go=true→k=n)) a'.defers .returning w':=by
   obtain ⟨ns,hds,hnd,hns⟩:=hr'.marks
   rw [hds]
   refine leaves_marks (C:=C') (fun w''=>Mem C' ρ' S' (getH (denB SH)) (fun i=>nx'.n≤i) w''∧∀ t v,a'.tmps[t]? = some v→Rel S' w'' ρ' (getA (denA SA) t) v) (fun w'' hq'' => ?_) (fun w1 n hr1 h1 h2 => ?_) ns w' hnd hns ⟨hr'.mem,hr'.slots⟩
   ·have hr'':Rep (C'.again w'' S') fn.ntmps ρ' S' (getA (denA SA)) (getH (denB SH)) (fun i=>nx'.n≤i) ⟨a'.tmps,[]⟩ w'':=⟨hq''.1.again,hr'.size,hq''.2,⟨[],rfl,List.nodup_nil,fun n hn=>by cases hn⟩,fun _ e=>e⟩
    obtain ⟨v,hv,-⟩:=run_results (fn:=fn) hr'' ht' (q:=(True,[])) (by rw [hres]; rfl) trivial
    obtain ⟨⟨Z,h1,-⟩,-⟩:=Y.re hg' (hq''.1.re (Y.ox hg'))
    exact ⟨v,hv,v,nx'.k,nx'.go,_,Z,rfl,h1,hfin⟩
   ·obtain ⟨hm2,hk2⟩:=hr1.1.turn (w':=w1.putObj n (.deferred none)) (n:=n) h1 (fun vs T fz e=>by rw [h2] at e; cases e) (by simp [World.putObj]) (fun c hc=>World.putObj_heap_other hc) ⟨rfl,rfl⟩
    exact ⟨hm2,fun t v e=>(hr1.2 t v e).mono hk2 (fun _ e=>e) (Names.le.refl _)⟩
  rcases he with rfl | rfl
  ·exact hend
  ·exact hend
end Go.Proofs.Ytoncoofmijjgeaa.Sep
namespace Go.Proofs.Ytoncoofmijjgeaa.Sep
open Go
set_option linter.unusedVariables false
set_option linter.unusedSimpArgs false
section
variable {C : Ctx} {ρ : Names} {S : Nat → Prop} {H : Nat → Option Blk} {nx : Nat → Prop} {w : World}
theorem Mem.move2 (h:Mem C ρ S H nx w) {w':World} (ρ0:Names) (S2 O X:Nat→Prop) (hρ:ρ0.le ρ) (hS:∀ b,S b→S2 b) (hS2:∀ b,S2 b→b<w'.heap.size) (hn:∀ i b,ρ i=some b→S2 b→S b) (hO:∀ i b,ρ i=some b→O b) (hk:Kept S w w') (hsame:∀ i b,ρ i=some b→w'.heap[b]? = w.heap[b]?) :
  Mem ⟨w',ρ0,S2,O,X⟩ ρ S2 H nx w' where
 size:=Nat.le_refl _
 shape _ _ e:=e
 old _ _ _:=rfl
 ent:=hρ
 s0 _ e:=e
 snew _ e:=.inl e
 sin:=hS2
 rin i b e:=⟨Nat.lt_of_lt_of_le (h.rin i b e).1 hk.size,.inl (hO i b e)⟩
 own i k b e hl e' hs:=h.own i k b e hl e' (hn i b e' hs)
 inj:=h.inj
 blk i k e:=(h.blk i k e).mono hk hS (Names.le.refl _) (fun n hn=>hsame i n hn)
 free:=h.free
 keep _ _ _ _ _ e:=e
end
mutual
def SV.low (m:Nat):SV→Bool
 | .lit _ | .int .. | .bool _ | .sl .. | .sptr .. => true
 | .ptr i _=>Nat.blt i m
 | .rptr i _ _ _=>Nat.blt i m
 | .vec i _ _ _=>Nat.blt i m
 | .agg cs=>SV.lowL m cs
 | .tup cs=>SV.lowL m cs
 | .fn _ xs cs=>SV.lowL m xs && SV.lowL m cs
 | _=>false
def SV.lowL (m:Nat):List SV→Bool
 | []=>true
 | c :: cs=>SV.low m c && SV.lowL m cs
end
mutual
theorem low_den {m:Nat} : ∀ x:SV,x.low m=true→x.den.idsLt m=true
 | .lit _,_ | .int ..,_ | .bool _,_ | .sl ..,_ | .sptr ..,_=>rfl
 | .ptr i _,h=>by simp only [SV.low] at h; simp only [SV.den,AV.idsLt,decide_eq_true_eq]; exact blt_true h
 | .rptr i _ _ _,h=>by simp only [SV.low] at h; simp only [SV.den,AV.idsLt,decide_eq_true_eq]; exact blt_true h
 | .vec i _ _ _,h=>by simp only [SV.low] at h; simp only [SV.den,AV.idsLt,decide_eq_true_eq]; exact blt_true h
 | .agg cs,h=>by simp only [SV.low] at h; simp only [SV.den,AV.idsLt]; exact lowL_den cs h
 | .tup cs,h=>by simp only [SV.low] at h; simp only [SV.den,AV.idsLt]; exact lowL_den cs h
 | .fn _ xs cs,h=>by
  simp only [SV.low,Bool.and_eq_true] at h
  simp only [SV.den,AV.idsLt,Bool.and_eq_true]
  exact ⟨lowL_den xs h.1,lowL_den cs h.2⟩
 | .top,h=>by simp [SV.low] at h
 | .when ..,h=>by simp [SV.low] at h
theorem lowL_den {m:Nat} : ∀ xs:List SV,SV.lowL m xs=true→AV.idsLtL m (SV.denL xs)=true
 | [],_=>rfl
 | c :: cs,h=>by
  simp only [SV.lowL,Bool.and_eq_true] at h
  simp only [SV.denL,AV.idsLtL,Bool.and_eq_true]
  exact ⟨low_den c h.1,lowL_den cs h.2⟩
end
structure RangeS where
 ι:Type
 pre:ι→Nat→Prop
 cnt:ι→Nat
 f:ι→Nat→List SV
 SA:ι→SSlots
 mf:Nat
 n0:Nat
 SH:ι→Nat→SBlks
 g0:ι→Nat→Nat × Bool:=fun _ _=>(0,false)
 retP:ι→Nat→Prop:=fun _ _=>False
 brkP:ι→Nat→Prop:=fun _ _=>False
 XH:ι→Nat→SBlks:=fun _ _=>[]
 gR:ι→Nat→Nat→Bool→Prop:=fun _ _ _ _=>True
def rfQ (on:Bool) (N id:Nat) (l:RangeS) (i:l.ι) (k:Nat):SPost:=fun e A H nx =>
 match e with
 | .normal=>l.pre i (k+1)∧gOK on nx (l.g0 i (k+1)) (fit N l.mf A H [] (l.SH i (k+1)) l.n0)
 | .ret=>l.retP i k∧gOK' on nx (l.gR i k) True (fit N l.mf A H [] (l.XH i k) l.n0)
 | .exit j=>match Nat.beq j id with
  | true=>l.brkP i k∧gOK' on nx (l.gR i k) True (fit N l.mf A H [] (l.XH i k) l.n0)
  | false=>False
 | _=>False
def onlyN (K:SSlots→SBlks→Cnt→Prop):SPost:=fun e A H nx =>
 match e with
 | .normal=>K A H nx
 | _=>False
def paramS:List Nat→List SV→SSlots→SSlots
 | p :: ps,v :: vs,A=>paramS ps vs ((p,v) :: A)
 | _,_,A=>A
def rangeF (N m:Nat) (fo:Operand) (gf:FuncId) (it:List SV→Option (List Prop × Nat × (Nat→List SV))) (l:RangeS) (i:l.ι):Prop :=
 match (l.SA i).all (fun p=>p.2.low l.mf && Nat.blt p.1 N) && Nat.ble m l.mf && Nat.ble l.mf l.n0 with
 | true =>
  match fnOfS (opdS (l.SA i) fo).strip with
  | some (g,[],caps) =>
   match Nat.beq g gf with
   | true=>allP (opdS (l.SA i) fo).grd <|
    match coeRow (coe2 (getB (l.SH i 0))) caps with
    | some (ps,[],ys)=>allP ps <|
     match it ys with
     | some (qs,n,f)=>allP qs (n=l.cnt i∧∀ k,k<n→f k=l.f i k)
     | none=>False
    | _=>False
   | false=>False
  | _=>False
 | false=>False
def rangeT (on:Bool) (N m:Nat) (fo:Operand) (gf:FuncId) (it:List SV→Option (List Prop × Nat × (Nat→List SV))) (l:RangeS) (par:SSlots→SBlks→Cnt→l.ι) (Q:SPost) (A:SSlots) (H:SBlks) (nx:Cnt):Prop :=
 l.pre (par A H nx) 0∧gOK on nx (l.g0 (par A H nx) 0) (fit N m A H (l.SA (par A H nx)) (l.SH (par A H nx) 0) l.n0)∧rangeF N m fo gf it l (par A H nx) ∧
  (l.pre (par A H nx) (l.cnt (par A H nx))→Q .normal (l.SA (par A H nx)) (l.SH (par A H nx) (l.cnt (par A H nx))) ⟨l.n0,(l.g0 (par A H nx) (l.cnt (par A H nx))).1,(l.g0 (par A H nx) (l.cnt (par A H nx))).2⟩) ∧
  (∀ k,k<l.cnt (par A H nx)→l.pre (par A H nx) k→l.retP (par A H nx) k→gAll on l.n0 (l.gR (par A H nx) k) True (Q .ret (l.SA (par A H nx)) (l.XH (par A H nx) k))) ∧
  (∀ k,k<l.cnt (par A H nx)→l.pre (par A H nx) k→l.brkP (par A H nx) k→gAll on l.n0 (l.gR (par A H nx) k) True (Q .normal (l.SA (par A H nx)) (l.XH (par A H nx) k)))
def IterOK (P:Program) (gf:FuncId) (it:List SV→Option (List Prop × Nat × (Nat→List SV))):Prop:=∀ xs ps n f,it xs=some (ps,n,f)→AllP ps→Iter P gf xs n f
theorem slots_fold {S:Nat→Prop} {w:World} {ρ:Names} : ∀ (ps:List Nat) (vs:List SV) (us:List Value) (A:SSlots) (t0:Array Value),vs.length=us.length →
  (∀ (k:Nat) v u,vs[k]? = some v→us[k]? = some u→Rel S w ρ v.den u)→(∀ t v,t0[t]? = some v→Rel S w ρ (getA (denA A) t) v) →
  ∀ t v,((ps.zip us).foldl (fun t p=>t.setIfInBounds p.1 p.2) t0)[t]? = some v→Rel S w ρ (getA (denA (paramS ps vs A)) t) v:=by
 intro ps
 induction ps with
 | nil=>intro vs us A t0 _ _ h0 t v e; cases vs <;> exact h0 t v e
 | cons p ps ih =>
  intro vs us A t0 hl hr h0
  cases vs with
  | nil =>
   cases us with
   | nil=>intro t v e; exact h0 t v e
   | cons u us=>simp at hl
  | cons x vs =>
   cases us with
   | nil=>simp at hl
   | cons u us =>
    refine ih vs us ((p,x) :: A) _ (by simpa using hl) (fun k v u' e1 e2=>hr (k+1) v u' (by simpa using e1) (by simpa using e2)) (fun t v e => ?_)
    simp only [denA,List.map_cons,getA]
    rw [Array.getElem?_setIfInBounds] at e
    by_cases hp:p=t
    ·subst hp
     rw [if_pos rfl] at e ⊢
     split at e
     ·cases e; exact hr 0 x u rfl rfl
     ·cases e
    ·rw [if_neg hp] at e ⊢
     exact h0 t v e
theorem paramS_top {N:Nat} : ∀ (ps:List Nat) (vs:List SV) (A:SSlots),ps.all (fun p=>Nat.blt p N)=true→(∀ t,N≤t→getA (denA A) t = .top)→∀ t,N≤t→getA (denA (paramS ps vs A)) t = .top:=by
 intro ps
 induction ps with
 | nil=>intro vs A _ h; cases vs <;> exact h
 | cons p ps ih =>
  intro vs A hp h
  cases vs with
  | nil=>exact h
  | cons v vs =>
   simp only [List.all_cons,Bool.and_eq_true] at hp
   refine ih vs _ hp.2 (fun t ht => ?_)
   simp only [denA,List.map_cons,getA]
   rw [if_neg (by have:=blt_true hp.1; omega)]
   exact h t ht
theorem fold_size:∀ (l:List (Nat × Value)) (t0:Array Value),(l.foldl (fun t p=>t.setIfInBounds p.1 p.2) t0).size=t0.size:=by
 intro l
 induction l with
 | nil=>intro t0; rfl
 | cons p l ih=>intro t0; rw [List.foldl_cons,ih]; simp
end Go.Proofs.Ytoncoofmijjgeaa.Sep
namespace Go.Proofs.Ytoncoofmijjgeaa.Sep
open Go
set_option linter.unusedVariables false
set_option linter.unusedSimpArgs false
section
variable {C C' : Ctx} {ρ : Names} {S : Nat → Prop} {H : Nat → Option Blk} {nx : Nat → Prop} {w : World}
theorem Ctx.Le.thru (h:C.Le C') (hm:Mem C' ρ S H nx w) {c:Nat} (hc:c<C.w0.heap.size) (hx:C.X c) (ho:¬ C.O c):C'.X c∧¬ C'.O c∧c<C'.w0.heap.size∧w.heap[c]? = C.w0.heap[c]? := by
 obtain ⟨h1,h2⟩:=h.same c hc hx ho
 have h3:=Nat.lt_of_lt_of_le hc h.size
 exact ⟨h.x c hx,h1,h3,(hm.old c h3 h1).trans h2⟩
theorem Ctx.Le.far (h:C.Le C') {b:Nat} (e:C'.O b∨C'.w0.heap.size≤b):C.O b∨C.w0.heap.size≤b:=by
 rcases e with e | e
 ·exact h.o b e
 ·exact .inr (Nat.le_trans h.size e)
theorem Ctx.Le.snew (h:C.Le C') (hm:Mem C' ρ S H nx w) {b:Nat} (e:S b):C.S0 b∨(C.O b∨C.w0.heap.size≤b):=by
 rcases hm.snew b e with h1 | h1 | h1
 ·rcases h.s1 b h1 with h2 | h2 | h2
  ·exact .inl h2
  ·exact .inr (.inr h2)
  ·exact .inr (.inl h2)
 ·exact .inr (h.far (.inr h1))
 ·exact .inr (h.far (.inl h1))
theorem Ctx.Le.cells (h:C.Le C') (hm:Mem C' ρ S H nx w) {b:Nat} {vs:Array Value} {T:TypeId} {fz:Nat × Nat} (e:C.S0 b) (e':C.w0.heap[b]? = some (.cells vs T fz)):w.heap[b]? = some (.cells vs T fz) :=
 hm.keep b vs T fz (h.s0 b e) (h.keep b vs T fz e e')
theorem Mem.turned (h:Mem C ρ S H nx w) (hox:∀ b,C.O b→C.X b) {l:Nat} {r r':Loop} (hx:C.X l) (ho:¬ C.O l) (hl:l<C.w0.heap.size) (hr:w.heap[l]? = some (.loop r)) (ρ0:Names) (hρ:ρ0.le ρ) :
  Mem ⟨w.putObj l (.loop r'),ρ0,S,fun b=>(C.O b∨C.w0.heap.size≤b)∧b<w.heap.size,fun b=>C.X b∨(C.w0.heap.size≤b∧b<w.heap.size)⟩ ρ S H nx (w.putObj l (.loop r'))∧Kept S w (w.putObj l (.loop r')) ∧
   C.Re ⟨w.putObj l (.loop r'),ρ0,S,fun b=>(C.O b∨C.w0.heap.size≤b)∧b<w.heap.size,fun b=>C.X b∨(C.w0.heap.size≤b∧b<w.heap.size)⟩ ∧
   (∀ n:Nat,w.heap[n]? = some (.deferred (some []))→(w.putObj l (.loop r')).heap[n]? = some (.deferred (some [])))∧(w.putObj l (.loop r')).heap[l]? = some (.loop r')∧(∀ b,b≠l→(w.putObj l (.loop r')).heap[b]? = w.heap[b]?):=by
 have hlw:l<w.heap.size:=(Array.getElem?_eq_some_iff.1 hr).1
 have hoth:∀ b,b≠l→(w.putObj l (.loop r')).heap[b]? = w.heap[b]? := fun b hb=>World.putObj_heap_other hb
 have hsz:(w.putObj l (.loop r')).heap.size=w.heap.size:=World.putObj_size
 have hsh:∀ b s,shp w b=some s→shp (w.putObj l (.loop r')) b=some s:=shp_all ⟨rfl,rfl⟩ fun b s e=>by
  by_cases hb:b=l
  ·subst hb; exact (shape?_not e (fun vs T fz=>by rw [hr]; intro e'; cases e')).elim
  ·exact shape?_keep (shape?_of_heap (hoth b hb)) e
 have hcl:∀ (b:Nat) vs T fz,w.heap[b]? = some (.cells vs T fz)→(w.putObj l (.loop r')).heap[b]? = some (.cells vs T fz):=fun b vs T fz e=>by
  by_cases hb:b=l
  ·subst hb; rw [hr] at e; cases e
  ·rw [hoth b hb]; exact e
 have hk:Kept S w (w.putObj l (.loop r')):=⟨by rw [hsz]; exact Nat.le_refl _,hsh,fun b vs T fz _ e=>hcl b vs T fz e⟩
 have hnl:∀ i b,ρ i=some b→b≠l:=fun i b e e'=>by
  subst e'
  rcases (h.rin i b e).2 with h1 | h1
  ·exact ho h1
  ·omega
 refine ⟨h.move2 ρ0 S _ _ hρ (fun _ e=>e) (fun b e=>by rw [hsz]; exact h.sin b e) (fun _ _ _ e=>e) (fun i b e=>⟨(h.rin i b e).2,(h.rin i b e).1⟩) hk (fun i b e=>hoth b (hnl i b e)),hk,⟨by rw [hsz]; exact h.size,fun b s e=>hsh b s (h.shape b s e),fun b hb hnx => ?_,fun b vs T fz e e'=>hcl b vs T fz (h.keep b vs T fz e e'),h.s0,fun b e=>by rw [hsz]; exact h.sin b e,fun b e => ?_,fun b e=>.inl e,fun b e => ?_,fun b e => ?_⟩,fun n e => ?_,World.putObj_heap_same hlw,hoth⟩
 ·exact (hoth b (fun e=>hnx (e ▸ hx))).trans (h.old b hb fun e=>hnx (hox b e))
 ·rcases h.snew b e with h1 | h1 | h1
  ·exact .inl h1
  ·exact .inr (.inr ⟨h1,h.sin b e⟩)
  ·exact .inr (.inl (hox b h1))
 ·exact e.imp id fun e=>⟨e.1,by rw [hsz]; exact e.2⟩
 ·rcases e.1 with h1 | h1
  ·exact .inl (hox b h1)
  ·exact .inr ⟨h1,e.2⟩
 ·rw [hoth n (fun e'=>by subst e'; rw [hr] at e; cases e)]; exact e
end
structure RInv {P:Program} {ys:YS} (Y:YEnv P ys) (id:Nat) (l:RangeS) (i:l.ι) (C:Ctx) (S:Nat→Prop) (w:World) (ρs:Names) (rec:LoopState→Option Code→Loop) (k:Nat) (go:Bool) (X Z:Nat→Prop) (W:World)
  (C':Ctx) (ρ':Names) (H:SBlks) (g:Nat × Bool):Prop where
 w0:C'.w0=W
 le:C.Le C'
 gh:Y.G g.1 g.2 C'
 mem:Mem C' ρ' C'.S0 (getH (denB H)) (fun j=>l.n0≤j) W
 nm:ρs.le ρ'
 s:∀ b,S b→C'.S0 b
 kept:Kept S w W
 d:W.heap[w.heap.size]? = some (.deferred (some []))
 xd:C'.X w.heap.size∧¬ C'.O w.heap.size
 xl:C'.X (w.heap.size+1)∧¬ C'.O (w.heap.size+1)
 xs:∀ b,X b→w.heap.size+2≤b∧b<W.heap.size∧C'.X b∧¬ C'.O b
 sz:∀ b,C'.S0 b→X b→Z b
 ob:∀ b,C'.O b→b<W.heap.size
 mkx:∀ n,n<w.heap.size→(C.O n∨C.w0.heap.size≤n)→C'.X n
 dkw:∀ n:Nat,w.heap[n]? = some (.deferred (some []))→W.heap[n]? = some (.deferred (some []))
 on:go=true→l.pre i k∧H=l.SH i k∧g=l.g0 i k∧W.heap[w.heap.size+1]? = some (.loop (rec .ready none))
 off:go=false → ∃ q,k=q+1∧q<l.cnt i∧l.pre i q∧H=l.XH i q∧gWas ys.on ⟨l.n0,g.1,g.2⟩ l.n0 (l.gR i q) True ∧ ∃ c,W.heap[w.heap.size+1]? = some (.loop (rec .done (some c)))∧((c = .ret∧l.retP i q)∨(c = .exit id∧l.brkP i q))
theorem RInv.abide {P:Program} {ys:YS} {Y:YEnv P ys} {id:Nat} {l:RangeS} {i:l.ι} {C:Ctx} {S:Nat→Prop} {w:World} {ρs:Names} {rec:LoopState→Option Code→Loop} {k:Nat} {go:Bool} {X X' Z:Nat→Prop} {W W':World}
  {C':Ctx} {ρ':Names} {H:SBlks} {g:Nat × Bool} (h:RInv Y id l i C S w ρs rec k go X Z W C' ρ' H g) (hCw:C.w0.heap.size≤w.heap.size) (hsize:W.heap.size≤W'.heap.size) (hshape:∀ b s,shp W b=some s→shp W' b=some s) (hsame:∀ b,b<W.heap.size→¬ X b→W'.heap[b]? = W.heap[b]?)
  (hZ:∀ b vs T fz,Z b→W.heap[b]? = some (.cells vs T fz)→W'.heap[b]? = some (.cells vs T fz)) (_:∀ b,X b→X' b) (hX1:∀ b,X' b→X b∨(W.heap.size≤b∧b<W'.heap.size)) :
  RInv Y id l i C S w ρs rec k go X' Z W' ⟨W',C'.ρ0,C'.S0,C'.O,fun b=>C'.X b∨(W.heap.size≤b∧b<W'.heap.size)⟩ ρ' H g:=by
 have hw:=h.w0
 have cell:∀ b vs T fz,C'.S0 b→W.heap[b]? = some (.cells vs T fz)→W'.heap[b]? = some (.cells vs T fz):=fun b vs T fz e e'=>by
  by_cases hx:X b
  ·exact hZ b vs T fz (h.sz b e hx) e'
  ·rw [hsame b (Array.getElem?_eq_some_iff.1 e').1 hx]; exact e'
 have hk:Kept C'.S0 W W':=⟨hsize,hshape,fun b vs T fz e e'=>cell b vs T fz e e'⟩
 have hO:∀ a b,ρ' a=some b→C'.O b:=fun a b e=>by
  obtain ⟨h1,h2⟩:=h.mem.rin a b e
  rcases h2 with h2 | h2
  ·exact h2
  ·rw [hw] at h2; omega
 have hdlt:=(Array.getElem?_eq_some_iff.1 h.d).1
 have hnx:∀ b,b<w.heap.size+2→¬ X b:=fun b hb e=>by have:=(h.xs b e).1; omega
 have hllt:w.heap.size+1<W.heap.size:=by
  cases hgo:go with
  | true=>exact (Array.getElem?_eq_some_iff.1 (h.on hgo).2.2.2).1
  | false=>obtain ⟨q,-,-,-,-,-,c,hc,-⟩:=h.off hgo; exact (Array.getElem?_eq_some_iff.1 hc).1
 have hrec:W'.heap[w.heap.size+1]? = W.heap[w.heap.size+1]? := hsame _ hllt (hnx _ (by omega))
 refine ⟨rfl,⟨h.le.ρ0,h.le.s0,h.le.s1,Nat.le_trans h.le.size (by rw [hw]; exact hsize),fun b s e=>hshape b s (by have:=h.le.shape b s e; rwa [hw] at this),fun b vs T fz e e'=>cell b vs T fz (h.le.s0 b e) (by have:=h.le.keep b vs T fz e e'; rwa [hw] at this),fun b e=>.inl (h.le.x b e),fun b hb hx ho => ?_,h.le.o,fun n e => ?_⟩,
  Y.re h.gh ⟨by rw [hw]; exact hsize,by rw [hw]; exact hshape,fun b hb hx => ?_,fun b vs T fz e e'=>cell b vs T fz e (by rwa [hw] at e'),fun _ e=>e,fun b e=>Nat.lt_of_lt_of_le (h.mem.sin b e) hsize,fun _ e=>.inl e,fun _ e=>.inl e,fun b e=>by rw [hw]; exact e,fun b e=>.inl (Y.ox h.gh b e)⟩,
  h.mem.move2 _ _ _ _ h.mem.ent (fun _ e=>e) (fun b e=>Nat.lt_of_lt_of_le (h.mem.sin b e) hsize) (fun _ _ _ e=>e) hO hk (fun a b e=>hsame b (h.mem.rin a b e).1 (fun hx=>(h.xs b hx).2.2.2 (hO a b e))),h.nm,h.s,
  h.kept.trans hk h.s,(hsame _ hdlt (hnx _ (by omega))).trans h.d,⟨.inl h.xd.1,h.xd.2⟩,⟨.inl h.xl.1,h.xl.2⟩,fun b e => ?_,fun b e e' => ?_,fun b e=>Nat.lt_of_lt_of_le (h.ob b e) hsize,fun n h1 h2=>.inl (h.mkx n h1 h2),fun n e=>(hsame n (Array.getElem?_eq_some_iff.1 (h.dkw n e)).1 (hnx n (by have:=(Array.getElem?_eq_some_iff.1 e).1; omega))).trans (h.dkw n e),fun e => ?_,fun e => ?_⟩
 ·obtain ⟨h1,h2⟩:=h.le.same b hb hx ho
  rw [hw] at h2
  exact ⟨h1,(hsame b (by have:=h.le.size; rw [hw] at this; omega) (hnx b (by omega))).trans h2⟩
 ·have h1:=h.le.dk n e
  rw [hw] at h1
  have hn:=(Array.getElem?_eq_some_iff.1 e).1
  exact (hsame n (Array.getElem?_eq_some_iff.1 h1).1 (hnx n (by omega))).trans h1
 ·rw [hw] at hb ⊢
  exact hsame b hb fun e=>hx (h.xs b e).2.2.1
 ·rcases hX1 b e with h1 | h1
  ·obtain ⟨g1,g2,g3,g4⟩:=h.xs b h1
   exact ⟨g1,Nat.lt_of_lt_of_le g2 hsize,.inl g3,g4⟩
  ·exact ⟨by omega,h1.2,.inr h1,fun e=>by have:=h.ob b e; omega⟩
 ·rcases hX1 b e' with h1 | h1
  ·exact h.sz b e h1
  ·have:=h.mem.sin b e; omega
 ·obtain ⟨g1,g2,g3,g4⟩:=h.on e
  exact ⟨g1,g2,g3,hrec.trans g4⟩
 ·obtain ⟨q,g1,g2,g3,g4,g5,c,g6,g7⟩:=h.off e
  exact ⟨q,g1,g2,g3,g4,g5,c,hrec.trans g6,g7⟩
end Go.Proofs.Ytoncoofmijjgeaa.Sep
namespace Go.Proofs.Ytoncoofmijjgeaa.Sep
open Go
set_option linter.unusedVariables false
set_option linter.unusedSimpArgs false
theorem RInv.round {P:Program} {E:Eqs} (hE:EqsOK P E) {O:Orc} (hO:OrcOK P O) (hmix:P.follows .mixedOrders=true) {ck:Bool} {ys:YS} {Y:YEnv P ys} {L:List Nat} {LI:Loops} {N id:Nat} {ps:Array Tmp} {assign body:Code} {l:RangeS} {i:l.ι}
  {C:Ctx} {S:Nat→Prop} {w:World} {ρs:Names} {rec:LoopState→Option Code→Loop} {a:Act} {fn:FuncId} (hrec:∀ st pe,rec st pe = { state:=st,pending:=pe,fn,tmps:=a.tmps,params:=ps,assign,body,defers:=w.heap.size })
  (hps:∀ k,(l.f i k).length=ps.size) (hpN:ps.toList.all (fun p=>Nat.blt p N)=true) (hA:LoopsOK Y (Fence.wide.inRound (w.heap.size+1)) N l.mf LI assign) (hB:LoopsOK Y (Fence.wide.inRound (w.heap.size+1)) N l.mf LI body)
  (hround:∀ k,k<l.cnt i→l.pre i k→vcS P E O ck ys N L LI assign (onlyN (vcS P E O ck ys N L LI body (rfQ ys.on N id l i k))) (paramS ps.toList (l.f i k) (l.SA i)) (l.SH i k) ⟨l.n0,(l.g0 i k).1,(l.g0 i k).2⟩)
  (hCw:C.w0.heap.size≤w.heap.size) (hCs:C.ρ0.le ρs) (hmf:∀ j,l.mf≤j→ρs j=none) (hsize:a.tmps.size=N) (hslots:∀ t v,a.tmps[t]? = some v→Rel S w ρs (getA (denA (l.SA i)) t) v) (htop:∀ t,N≤t→getA (denA (l.SA i)) t = .top)
  {k:Nat} {X Z Sy:Nat→Prop} {W:World} {args:Array Value} (hk:k<l.cnt i) {C':Ctx} {ρ':Names} {H:SBlks} {g:Nat × Bool} (h:RInv Y id l i C S w ρs rec k true X Z W C' ρ' H g)
  (hZS:∀ b,Z b→Sy b) (hSy:∀ b,Sy b→(S b∨X b)∧b<W.heap.size) (hargs:RelCs Sy W noNames (SV.denL (l.f i k)) args) :
  YieldAt Fence.wide 0 P (w.heap.size+1) args W fun e W' => ∃ b,e = .returned (.bool b)∧W.heap.size≤W'.heap.size∧(∀ b s,shp W b=some s→shp W' b=some s)∧(∀ b vs T fz,Sy b→W.heap[b]? = some (.cells vs T fz)→W'.heap[b]? = some (.cells vs T fz)) ∧
   (∀ b,X b→W'.heap[b]? = W.heap[b]?)∧(∀ n:Nat,W.heap[n]? = some (.deferred (some []))→W'.heap[n]? = some (.deferred (some []))) ∧ ∃ C'' ρ'' H' g',RInv Y id l i C S w ρs rec (k+1) b X Sy W' C'' ρ'' H' g':=by
 obtain ⟨hpre,rfl,rfl,hl⟩:=h.on rfl
 have hw:=h.w0
 have hasz:args.size=ps.size:=by rw [hargs.1,denL_length,hps]
 have hy:=run_yield (P:=P) (args:=args) hl (by rw [hrec]; exact hasz)
 rw [hrec] at hy
 refine ⟨fn,_,assign,body,hy,roundIn_of_wpIn (F:=Fence.wide) trivial ?_⟩
 have hOn:∀ a b,ρ' a=some b→C'.O b:=fun a b e=>by
  obtain ⟨h1,h2⟩:=h.mem.rin a b e
  rcases h2 with h2 | h2
  ·exact h2
  ·rw [hw] at h2; omega
 let Sb:Nat→Prop:=fun b=>C'.S0 b∨Sy b
 let Cb:Ctx:=⟨W,ρs,Sb,C'.O,C'.X⟩
 have hSbX:∀ b,Sb b→X b→Sy b:=fun b e e'=>by
  rcases e with e | e
  ·exact hZS b (h.sz b e e')
  ·exact e
 have hSb:∀ b,Sb b→b<W.heap.size:=fun b e=>by
  rcases e with e | e
  ·exact h.mem.sin b e
  ·exact (hSy b e).2
 have hm0:Mem Cb ρ' Sb (getH (denB (l.SH i k))) (fun j=>l.n0≤j) W:=h.mem.move2 ρs Sb C'.O C'.X h.nm (fun b e=>.inl e) hSb (fun a b e e'=>by
  rcases e' with e' | e'
  ·exact e'
  ·rcases (hSy b e').1 with h1 | h1
   ·exact h.s b h1
   ·exact ((h.xs b h1).2.2.2 (hOn a b e)).elim) hOn (Kept.refl _ _) (fun _ _ _=>rfl)
 have hg0:Y.G (l.g0 i k).1 (l.g0 i k).2 Cb:=Y.re h.gh ⟨by rw [hw]; exact Nat.le_refl _,by rw [hw]; exact fun _ _ e=>e,by rw [hw]; exact fun _ _ _=>rfl,by rw [hw]; exact fun _ _ _ _ _ e=>e,fun b e=>.inl e,hSb,fun b e=>by
   rcases e with e | e
   ·exact .inl e
   ·rcases (hSy b e).1 with h1 | h1
    ·exact .inl (h.s b h1)
    ·exact .inr (h.xs b h1).2.2.1,fun _ e=>e,fun _ e=>.inl e,fun b (e:C'.O b)=>Y.ox h.gh b e⟩
 have hslot:∀ t v,((ps.zip args).foldl (fun (tmps:Array Value) (p:Tmp × Value)=>tmps.setIfInBounds p.1 p.2) a.tmps)[t]? = some v→Rel Sb W ρ' (getA (denA (paramS ps.toList (l.f i k) (l.SA i))) t) v:=fun t v e=>by
  rw [← Array.foldl_toList,Array.toList_zip] at e
  refine slots_fold ps.toList (l.f i k) args.toList (l.SA i) a.tmps (by rw [hps]; simp [hasz]) (fun q x u e1 e2 => ?_) (fun t v e=>(hslots t v e).mono h.kept (fun b e=>.inl (h.s b e)) h.nm) t v e
  exact (hargs.2 q x.den u (by rw [denL_getElem,e1]; rfl) (by simpa using e2)).mono (Kept.refl _ _) (fun b e=>.inr e) (fun _ _ e=>by cases e)
 have hr0:Rep Cb N ρ' Sb (getA (denA (paramS ps.toList (l.f i k) (l.SA i)))) (getH (denB (l.SH i k))) (fun j=>l.n0≤j) { tmps:=(ps.zip args).foldl (fun (tmps:Array Value) (p:Tmp × Value)=>tmps.setIfInBounds p.1 p.2) a.tmps,defers:=[] } W :=
  ⟨hm0,by rw [← Array.foldl_toList]; simp only; rw [fold_size]; exact hsize,hslot,⟨[],rfl,List.nodup_nil,fun n hn=>by cases hn⟩,fun _ e=>e⟩
 -- the loop's variables are set
 have hwa:=vcS_sound hE hO (FOK.inRound (w.heap.size+1)) hmix (Y:=Y) assign hA _ _ _ _ (hround k hk hpre) Cb ρ' Sb _ W hmf hg0 hr0 (paramS_top _ _ _ hpN htop)
 refine wpIn_mono hwa ?_
 rintro e a1 w1 ⟨C1,ρ1,S1,A1,H1,nx1,hC1,hg1,hr1,ht1,SA1,SH1,rfl,rfl,hq1⟩
 have lok:∀ {C2 ρ2 S2 H2 nx2 w2},Cb.Le C2→Mem C2 ρ2 S2 H2 nx2 w2→C2.X (w.heap.size+1)∧¬ C2.O (w.heap.size+1)∧w.heap.size+1<C2.w0.heap.size∧w2.heap[w.heap.size+1]? = W.heap[w.heap.size+1]? := fun hle hm =>
  hle.thru hm (Array.getElem?_eq_some_iff.1 hl).1 h.xl.1 h.xl.2
 cases e with
 | normal =>
  have hq1:vcS P E O ck ys N L LI body (rfQ ys.on N id l i k) SA1 SH1 nx1:=hq1
  obtain ⟨x1,o1,s1,e1⟩:=lok hC1 hr1.mem
  have hl1:w1.heap[w.heap.size+1]? = some (.loop (rec .ready none)):=e1.trans hl
  obtain ⟨hm2,hk2,hre2,hd2,hl2,hoth2⟩:=hr1.mem.turned (Y.ox hg1) (r' := { rec .ready none with state:=.busy }) x1 o1 s1 hl1 C1.ρ0 hr1.mem.ent
  refine ⟨_,run_beginRound hl1 (by rw [hrec]),?_⟩
  generalize hw2:w1.putObj (w.heap.size+1) (.loop { rec .ready none with state:=.busy })=w2 at *
  obtain ⟨C2,hC2⟩ : ∃ C2:Ctx,C2=⟨w2,C1.ρ0,S1,fun b=>(C1.O b∨C1.w0.heap.size≤b)∧b<w1.heap.size,fun b=>C1.X b∨(C1.w0.heap.size≤b∧b<w1.heap.size)⟩:=⟨_,rfl⟩
  rw [← hC2] at hm2 hre2
  have c2w:C2.w0=w2:=by rw [hC2]
  have hr2:Rep C2 N ρ1 S1 (getA (denA SA1)) (getH (denB SH1)) (fun j=>nx1.n≤j) a1 w2:=by
   refine ⟨hm2,hr1.size,fun t v e=>(hr1.slots t v e).mono hk2 (fun _ e=>e) (Names.le.refl _),?_,fun n e=>by rwa [c2w] at e⟩
   obtain ⟨ns,g1,g2,g3⟩:=hr1.marks
   refine ⟨ns,g1,g2,fun n hn=>⟨?_,hd2 n (g3 n hn).2⟩⟩
   rw [hC2]
   exact .inl ⟨(g3 n hn).1,(Array.getElem?_eq_some_iff.1 (g3 n hn).2).1⟩
  have hwb:=vcS_sound hE hO (FOK.inRound (w.heap.size+1)) hmix (Y:=Y) body hB _ _ _ _ hq1 C2 ρ1 S1 a1 w2 (by rw [hC2]; show ∀ j,l.mf≤j→C1.ρ0 j=none; rw [hC1.ρ0]; exact hmf) (Y.re hg1 hre2) hr2 ht1
  refine wpIn_mono hwb ?_
  rintro e a3 w3 ⟨C3,ρ3,S3,A3,H3,nx3,hC3,hg3,hr3,ht3,SA3,SH3,rfl,rfl,hq3⟩
  have hρ3:C3.ρ0=ρs:=by rw [hC3.ρ0,hC2]; exact hC1.ρ0
  have hs1w:C1.w0.heap.size≤w1.heap.size:=hr1.mem.size
  have hs2:w2.heap.size=w1.heap.size:=by rw [← hw2]; exact World.putObj_size
  have hs3:C2.w0.heap.size≤C3.w0.heap.size:=hC3.size
  have hs3w:=hr3.mem.size
  have hWs:W.heap.size≤C1.w0.heap.size:=hC1.size
  rw [c2w] at hs3
  -- a block that others own
  have step2:∀ c,c<C1.w0.heap.size→C1.X c→¬ C1.O c→C3.X c∧¬ C3.O c∧c<C3.w0.heap.size∧w3.heap[c]? = w2.heap[c]? := fun c hc hx ho=>by
   have:=hC3.thru hr3.mem (c:=c) (by rw [c2w]; omega) (by rw [hC2]; exact .inl hx) (by
    rw [hC2]
    rintro ⟨e | e,-⟩
    ·exact ho e
    ·omega)
   rw [c2w] at this
   exact this
  have fix:∀ c,c<W.heap.size→C'.X c→¬ C'.O c→C3.X c∧¬ C3.O c∧c<C3.w0.heap.size∧(c≠w.heap.size+1→w3.heap[c]? = W.heap[c]?):=fun c hc hx ho=>by
   obtain ⟨g1,g2,g3,g4⟩:=hC1.thru hr1.mem (c:=c) hc hx ho
   obtain ⟨g5,g6,g7,g8⟩:=step2 c g3 g1 g2
   exact ⟨g5,g6,g7,fun hne=>by rw [g8,hoth2 c hne,g4]⟩
  obtain ⟨x3,o3,s3,-⟩:=fix _ (Array.getElem?_eq_some_iff.1 hl).1 h.xl.1 h.xl.2
  have hl3:w3.heap[w.heap.size+1]? = some (.loop { rec .ready none with state:=.busy }):=by
   rw [(step2 _ s1 x1 o1).2.2.2]; exact hl2
  -- far away
  have far2:∀ b,(C2.O b∨C2.w0.heap.size≤b)→Cb.O b∨Cb.w0.heap.size≤b:=fun b e=>by
   rw [hC2] at e
   rcases e with ⟨e,-⟩ | e
   ·exact hC1.far e
   ·have e:w2.heap.size≤b:=e
    exact .inr (by show W.heap.size≤b; omega)
  have far3:∀ b,(C3.O b∨C3.w0.heap.size≤b)→C'.O b∨W.heap.size≤b:=fun b e=>far2 b (hC3.far e)
  have sfar:∀ b,S3 b→Sb b∨(C'.O b∨W.heap.size≤b):=fun b e=>by
   rcases hC3.snew hr3.mem e with h1 | h1
   ·have h1:S1 b:=by rw [hC2] at h1; exact h1
    exact hC1.snew hr1.mem h1
   ·exact .inr (far2 b h1)
  have Sb3:∀ b,Sb b→S3 b:=fun b e=>hr3.mem.s0 b (hC3.s0 b (by rw [hC2]; exact hr1.mem.s0 b (hC1.s0 b e)))
  have cells3:∀ b vs T fz,Sb b→W.heap[b]? = some (.cells vs T fz)→w3.heap[b]? = some (.cells vs T fz):=fun b vs T fz e e'=>by
   have g1:=hC1.cells hr1.mem e e'
   have hne:b≠w.heap.size+1:=fun e=>by subst e; rw [hl1] at g1; cases g1
   refine hC3.cells hr3.mem (by rw [hC2]; exact hr1.mem.s0 b (hC1.s0 b e)) ?_
   rw [c2w,hoth2 b hne]; exact g1
  have shape3:∀ b s,shp W b=some s→shp w3 b=some s:=fun b s e=>by
   have g1:=hr1.mem.shape b s (hC1.shape b s e)
   refine hr3.mem.shape b s (hC3.shape b s ?_)
   rw [c2w]
   exact hk2.shape b s g1
  have dk3:∀ n:Nat,W.heap[n]? = some (.deferred (some []))→w3.heap[n]? = some (.deferred (some [])):=fun n e=>by
   have g1:=hr1.dk n (hC1.dk n e)
   refine hr3.dk n (hC3.dk n ?_)
   rw [c2w]
   exact hd2 n g1
  -- behind the round
  have close:∀ (jump:Option Code) (H4:SBlks) (g4:Nat × Bool) (ρ4:Names) (go:Bool),Mem C3 ρ4 S3 (getH (denB H4)) (fun j=>l.n0≤j) w3→Y.G g4.1 g4.2 C3→go=jump.isNone →
    (go=true→l.pre i (k+1)∧H4=l.SH i (k+1)∧g4=l.g0 i (k+1)) →
    (go=false→H4=l.XH i k∧gWas ys.on ⟨l.n0,g4.1,g4.2⟩ l.n0 (l.gR i k) True ∧ ∃ c,jump=some c∧((c = .ret∧l.retP i k)∨(c = .exit id∧l.brkP i k))) →
    ∃ v w4,(Instr.endRound (w.heap.size+1) jump).run P w3 = .ok v w4 ∧ ∃ b,(Ending.returned v) = .returned (.bool b)∧W.heap.size≤w4.heap.size∧(∀ b s,shp W b=some s→shp w4 b=some s)∧(∀ b vs T fz,Sy b→W.heap[b]? = some (.cells vs T fz)→w4.heap[b]? = some (.cells vs T fz)) ∧
     (∀ b,X b→w4.heap[b]? = W.heap[b]?)∧(∀ n:Nat,W.heap[n]? = some (.deferred (some []))→w4.heap[n]? = some (.deferred (some []))) ∧ ∃ C'' ρ'' H' g',RInv Y id l i C S w ρs rec (k+1) b X Sy w4 C'' ρ'' H' g':=by
   intro jump H4 g4 ρ4 go hm4 hg4 hgo hon hoff
   subst hgo
   have hrun:=run_endRound (P:=P) jump hl3
   obtain ⟨hm5,hk5,hre5,hd5,hl5,hoth5⟩:=hm4.turned (Y.ox hg4) (r' := { rec .ready none with state:=if jump.isNone then .ready else .done,pending:=jump }) x3 o3 s3 hl3 C.ρ0 (hCs.trans (by rw [← hρ3]; exact hm4.ent))
   refine ⟨_,_,hrun,jump.isNone,rfl,?_⟩
   have hw5s:(w3.putObj (w.heap.size+1) (.loop { rec .ready none with state:=if jump.isNone then .ready else .done,pending:=jump })).heap.size=w3.heap.size:=World.putObj_size
   generalize hw5:w3.putObj (w.heap.size+1) (.loop { rec .ready none with state:=if jump.isNone then .ready else .done,pending:=jump })=w5 at *
   have hx5:∀ c,c<W.heap.size→C'.X c→¬ C'.O c→c≠w.heap.size+1→w5.heap[c]? = W.heap[c]? := fun c hc hx ho hne=>by rw [hoth5 c hne]; exact (fix c hc hx ho).2.2.2 hne
   have cells5:∀ b vs T fz,Sb b→W.heap[b]? = some (.cells vs T fz)→w5.heap[b]? = some (.cells vs T fz):=fun b vs T fz e e'=>by
    have g1:=cells3 b vs T fz e e'
    rw [hoth5 b (fun e=>by subst e; rw [hl3] at g1; cases g1)]; exact g1
   have shape5:∀ b s,shp W b=some s→shp w5 b=some s:=fun b s e=>hk5.shape b s (shape3 b s e)
   have size5:W.heap.size≤w5.heap.size:=by omega
   have no5:∀ c,c<W.heap.size→C'.X c→¬ C'.O c→¬ ((C3.O c∨C3.w0.heap.size≤c)∧c<w3.heap.size):=fun c hc hx ho=>by
    obtain ⟨g1,g2,g3,-⟩:=fix c hc hx ho
    rintro ⟨e | e,-⟩
    ·exact g2 e
    ·omega
   have hdlt:=(Array.getElem?_eq_some_iff.1 h.d).1
   have hllt:=(Array.getElem?_eq_some_iff.1 hl).1
   have dk5:∀ n:Nat,W.heap[n]? = some (.deferred (some []))→w5.heap[n]? = some (.deferred (some [])):=fun n e=>hd5 n (dk3 n e)
   refine ⟨size5,shape5,fun b vs T fz e e'=>cells5 b vs T fz (.inr e) e',fun b e => ?_,dk5,⟨w5,C.ρ0,S3,fun b=>(C3.O b∨C3.w0.heap.size≤b)∧b<w3.heap.size,fun b=>C3.X b∨(C3.w0.heap.size≤b∧b<w3.heap.size)⟩,ρ4,H4,g4,?_⟩
   ·obtain ⟨g1,g2,g3,g4⟩:=h.xs b e
    exact hx5 b g2 g3 g4 (by omega)
   refine ⟨rfl,⟨rfl,fun b e=>Sb3 b (.inl (h.le.s0 b e)),fun b e => ?_,?_,fun b s e=>shape5 b s (by have:=h.le.shape b s e; rwa [hw] at this),fun b vs T fz e e'=>cells5 b vs T fz (.inl (h.le.s0 b e)) (by have:=h.le.keep b vs T fz e e'; rwa [hw] at this),fun b e => ?_,fun b hb hx ho => ?_,fun b e => ?_,fun n e=>dk5 n (by have:=h.le.dk n e; rwa [hw] at this)⟩,
    Y.re hg4 hre5,hm5,?_,fun b e=>Sb3 b (.inl (h.s b e)),h.kept.trans ⟨size5,shape5,fun b vs T fz e e'=>cells5 b vs T fz (.inl e) e'⟩ h.s,dk5 _ h.d,?_,?_,fun b e => ?_,fun b e e' => ?_,fun b e => ?_,fun n h1 h2 => ?_,fun n e=>dk5 n (h.dkw n e),fun e => ?_,fun e => ?_⟩
   ·rcases sfar b e with h1 | h1
    ·rcases h1 with h1 | h1
     ·exact h.le.s1 b h1
     ·rcases (hSy b h1).1 with h2 | h2
      ·exact h.le.s1 b (h.s b h2)
      ·exact .inr (.inl (by have:=(h.xs b h2).1; omega))
    ·rcases h1 with h1 | h1
     ·rcases h.le.o b h1 with h2 | h2
      ·exact .inr (.inr h2)
      ·exact .inr (.inl h2)
     ·exact .inr (.inl (by have:=h.le.size; rw [hw] at this; omega))
   ·show C.w0.heap.size≤w5.heap.size
    have:=h.le.size; rw [hw] at this; omega
   ·exact .inl (hC3.x b (by rw [hC2]; exact .inl (hC1.x b (h.le.x b e))))
   ·obtain ⟨g1,g2⟩:=h.le.same b hb hx ho
    rw [hw] at g2
    have hbW:b<W.heap.size:=by have:=h.le.size; rw [hw] at this; omega
    exact ⟨no5 b hbW (h.le.x b hx) g1,(hx5 b hbW (h.le.x b hx) g1 (by omega)).trans g2⟩
   ·rcases far3 b e.1 with h1 | h1
    ·exact h.le.o b h1
    ·exact .inr (by have:=h.le.size; rw [hw] at this; omega)
   ·rw [← hρ3]; exact hm4.ent
   ·exact ⟨.inl (fix _ hdlt h.xd.1 h.xd.2).1,no5 _ hdlt h.xd.1 h.xd.2⟩
   ·exact ⟨.inl x3,no5 _ hllt h.xl.1 h.xl.2⟩
   ·obtain ⟨g1,g2,g3,g4⟩:=h.xs b e
    exact ⟨g1,by show b<w5.heap.size; omega,.inl (fix b g2 g3 g4).1,no5 b g2 g3 g4⟩
   ·obtain ⟨g1,g2,g3,g4⟩:=h.xs b e'
    rcases sfar b e with h1 | h1
    ·exact hSbX b h1 e'
    ·rcases h1 with h1 | h1
     ·exact (g4 h1).elim
     ·omega
   ·have:=e.2
    show b<w5.heap.size
    omega
   ·exact .inl (hC3.x n (by rw [hC2]; exact .inl (hC1.x n (h.mkx n h1 h2))))
   ·obtain ⟨g1,g2,g3⟩:=hon e
    refine ⟨g1,g2,g3,hl5.trans ?_⟩
    have hj:jump=none:=by cases jump with | none=>rfl | some c=>cases e
    subst hj
    simp [hrec]
   ·obtain ⟨g1,g2,c,g3,g4⟩:=hoff e
    subst g3
    refine ⟨k,rfl,hk,hpre,g1,g2,c,hl5.trans ?_,g4⟩
    simp [hrec]
  -- how the body was left
  unfold rfQ at hq3
  have h03:∀ j,l.mf≤j→C3.ρ0 j=none:=by rw [hρ3]; exact hmf
  split at hq3
  ·obtain ⟨g1,g2⟩:=hq3
   obtain ⟨g2,g3⟩:=gOK_ok g2 hg3
   obtain ⟨ρ4,g4,-⟩:=fit_ok h03 hr3 g2
   exact close none _ _ ρ4 true g4.mem g3 rfl (fun _=>⟨g1,rfl,rfl⟩) (fun e=>by cases e)
  ·obtain ⟨g1,g2⟩:=hq3
   obtain ⟨g2,⟨n2,k2,go2⟩,hn2,hw2,g3⟩:=gOK'_ok l.n0 g2 hg3
   have hn2:n2=l.n0:=hn2
   subst hn2
   obtain ⟨ρ4,g4,-⟩:=fit_ok h03 hr3 g2
   exact close (some .ret) _ (k2,go2) ρ4 false g4.mem g3 rfl (fun e=>by cases e) (fun _=>⟨rfl,hw2,_,rfl,.inl ⟨rfl,g1⟩⟩)
  ·rename_i j
   split at hq3
   ·rename_i hj
    have hj:=beq_true hj
    subst hj
    obtain ⟨g1,g2⟩:=hq3
    obtain ⟨g2,⟨n2,k2,go2⟩,hn2,hw2,g3⟩:=gOK'_ok l.n0 g2 hg3
    have hn2:n2=l.n0:=hn2
    subst hn2
    obtain ⟨ρ4,g4,-⟩:=fit_ok h03 hr3 g2
    exact close (some (.exit _)) _ (k2,go2) ρ4 false g4.mem g3 rfl (fun e=>by cases e) (fun _=>⟨rfl,hw2,_,rfl,.inr ⟨rfl,g1⟩⟩)
   ·exact hq3.elim
  ·exact hq3.elim
 | _=>exact hq1.elim
end Go.Proofs.Ytoncoofmijjgeaa.Sep
namespace Go.Proofs.Ytoncoofmijjgeaa.Sep
open Go
set_option linter.unusedVariables false
set_option linter.unusedSimpArgs false
theorem getS_low {m N:Nat} : ∀ {A:SSlots},A.all (fun p=>p.2.low m && Nat.blt p.1 N)=true→∀ t,(getS A t).den = .top∨(getS A t).den.idsLt m=true:=by
 intro A
 induction A with
 | nil=>intro _ t; exact .inl rfl
 | cons p A ih =>
  intro h t
  simp only [List.all_cons,Bool.and_eq_true] at h
  simp only [getS]
  split
  ·exact .inr (low_den _ h.1.1)
  ·exact ih (by simpa using h.2) t
section
variable {P : Program} {E : Eqs} (hE : EqsOK P E) {O : Orc} (hO : OrcOK P O) (hmix : P.follows .mixedOrders = true) {ck : Bool} {ys : YS} {Y : YEnv P ys} {F : Fence} (hF : FOK F) (hround : F.round = none)
include hE hO hmix hF hround
theorem rangeT_ok {L:List Nat} {LI:Loops} {N m id:Nat} {fo:Operand} {gf:FuncId} {it:List SV→Option (List Prop × Nat × (Nat→List SV))} (hit:IterOK P gf it) {ps:Array Tmp} {assign body:Code} {l:RangeS} {par:SSlots→SBlks→Cnt→l.ι}
  (hps:∀ i k,(l.f i k).length=ps.size) (hpN:ps.toList.all (fun p=>Nat.blt p N)=true) (hA:∀ b,LoopsOK Y (Fence.wide.inRound b) N l.mf LI assign) (hB:∀ b,LoopsOK Y (Fence.wide.inRound b) N l.mf LI body)
  (hrd:∀ i k,k<l.cnt i→l.pre i k→vcS P E O ck ys N L LI assign (onlyN (vcS P E O ck ys N L LI body (rfQ ys.on N id l i k))) (paramS ps.toList (l.f i k) (l.SA i)) (l.SH i k) ⟨l.n0,(l.g0 i k).1,(l.g0 i k).2⟩) :
  ∀ Q A H nx,rangeT ys.on N m fo gf it l par Q A H nx→WPS Y F N m (.block id (.rangeFunc fo ps assign body)) Q A H nx:=by
 rintro Q A H nx ⟨hp0,hfit,hrf,hdone,hret,hbrk⟩ C ρ0 S a w h0 hg hr _
 generalize par A H nx=i at *
 obtain ⟨hf,hg⟩:=gOK_ok hfit hg
 obtain ⟨ρ,hr,ht⟩:=fit_ok h0 hr hf
 unfold rangeF at hrf
 split at hrf
 ·rename_i hck
  simp only [Bool.and_eq_true] at hck
  obtain ⟨⟨hlow,hm⟩,hmn⟩:=hck
  have hm:=Nat.le_of_ble_eq_true hm
  -- the iterator
  obtain ⟨lb,n,f,hev,hI,hcap,hn,hff⟩ : ∃ (lb:Array Value) (n:Nat) (f:Nat→List SV),a.eval fo = .func (.func gf) #[] lb∧(∃ xs,Iter P gf xs n f∧RelCs S w noNames (SV.denL xs) lb)∧True∧n=l.cnt i∧∀ k,k<n→f k=l.f i k:=by
   split at hrf
   ·rename_i g caps hfn
    split at hrf
    ·rename_i hgb
     have:=beq_true hgb
     subst this
     obtain ⟨hgrd,hrf⟩:=allP_iff.1 hrf
     split at hrf
     ·rename_i ps' ys' hco
      obtain ⟨hps',hrf⟩:=allP_iff.1 hrf
      split at hrf
      ·rename_i qs n f hite
       obtain ⟨hqs,h1,h2⟩:=allP_iff.1 hrf
       have hopd:=opd_rel hr ht
       rw [opdS_den] at hopd
       have hv:=(hopd fo).strip (den_grd hgrd)
       rw [den_strip] at hv
       obtain ⟨us,vs,e1,e2,e3⟩:=fnOf_rel (fnOfS_den hfn) hv
       have hus:us = #[]:=by
        have:=e2.1
        simp only [SV.denL,List.length_nil] at this
        exact Array.eq_empty_of_size_eq_zero this
       subst hus
       refine ⟨vs,n,f,e1,⟨ys',hit _ _ _ _ hite hqs,?_⟩,trivial,h1,h2⟩
       obtain ⟨c1,c2,-⟩:=coeRow_ok (coe2_ok _) _ _ _ _ hco hps'
       obtain ⟨c3,c4⟩:=c1.get
       refine ⟨by rw [e3.1,c3],fun k c v e4 e5 => ?_⟩
       have hk:k<(SV.denL caps).length:=by rw [c3]; exact (List.getElem?_eq_some_iff.1 e4).1
       have ha:(SV.denL caps)[k]? = some (SV.denL caps)[k]:=by simp [hk]
       have hm':=hr.mem
       rw [getH_den] at hm'
       have hre:=((c4 k _ c ha e4).rel hm' (e3.2 k _ v ha e5)).idless (idlessL_get c2 e4)
       exact hre.mono (Kept.refl _ _) (fun b e=>by
        rcases e with e | ⟨j,hj,-⟩
        ·exact e
        ·cases hj) (Names.le.refl _)
      ·exact hrf.elim
     ·exact hrf.elim
    ·exact hrf.elim
   ·exact hrf.elim
  clear hcap hrf
  subst hn
  refine wpIn_block (wpIn_rangeFunc fun fn hfn => ?_)
  rw [hround]
  obtain ⟨rec,hrec⟩ : ∃ rec:LoopState→Option Code→Loop,∀ st pe,rec st pe = { state:=st,pending:=pe,fn,tmps:=a.tmps,params:=ps,assign,body,defers:=w.heap.size } := ⟨fun st pe=>_,fun _ _=>rfl⟩
  have hloop:(Instr.enterLoop fn a.tmps ps assign body none).run P w = .ok (w.heap.size+1,[{ target:=.collected w.heap.size,args := #[] }]) ((w.alloc (.deferred (some []))).alloc (.loop (rec .ready none))):=by
   rw [hrec]; exact run_enterLoop_outer _ _ _ _ _
  obtain ⟨W1,hW1⟩ : ∃ W1,W1=(w.alloc (.deferred (some []))).alloc (.loop (rec .ready none)):=⟨_,rfl⟩
  rw [← hW1] at hloop
  have hW1s:W1.heap.size=w.heap.size+2:=by rw [hW1]; simp
  have hL1:W1.heap[w.heap.size+1]? = some (.loop (rec .ready none)):=by
   rw [hW1]; have:=World.alloc_heap_new (w.alloc (.deferred (some []))) (.loop (rec .ready none)); rwa [World.size_alloc] at this
  have hD1:W1.heap[w.heap.size]? = some (.deferred (some [])):=by
   rw [hW1,heap_alloc_lt (by simp)]; exact World.alloc_heap_new w _
  have hold1:∀ b,b<w.heap.size→W1.heap[b]? = w.heap[b]? := fun b hb=>by rw [hW1,heap_alloc_lt (by simp; omega),heap_alloc_lt hb]
  have hsh1:∀ b s,shp w b=some s→shp W1 b=some s:=shp_all (by rw [hW1]; exact ⟨rfl,rfl⟩) fun b s e=>shape?_keep (shape?_of_heap (hold1 b (shape?_lt e))) e
  have hk1:Kept S w W1:=⟨by omega,hsh1,fun b vs T fz _ e=>by rw [hold1 b (Array.getElem?_eq_some_iff.1 e).1]; exact e⟩
  let ρs:Names:=Sep.below l.mf ρ
  have hρs:ρs.le ρ:=fun j b e=>by
   have e:(if j<l.mf then ρ j else none)=some b:=e
   split at e
   ·exact e
   ·cases e
  have hCs:C.ρ0.le ρs:=fun j b e=>by
   have hj:j<l.mf:=by
    rcases Nat.lt_or_ge j m with hj | hj
    ·omega
    ·rw [h0 j hj] at e; cases e
   show (if j<l.mf then ρ j else none)=some b
   rw [if_pos hj]; exact hr.mem.ent j b e
  have hmf:∀ j,l.mf≤j→ρs j=none:=fun j hj=>by
   show (if j<l.mf then ρ j else none)=none
   rw [if_neg (by omega)]
  have hslots:∀ t v,a.tmps[t]? = some v→Rel S w ρs (getA (denA (l.SA i)) t) v:=fun t v e=>by
   have hv:=hr.slots t v e
   rw [getA_den] at hv ⊢
   rcases getS_low hlow t with h1 | h1
   ·rw [h1]; exact .top v
   ·exact hv.lt h1
  -- what holds before the first round
  let C1:Ctx:=⟨W1,C.ρ0,S,fun b=>(C.O b∨C.w0.heap.size≤b)∧b<w.heap.size,fun b=>C.X b∨(C.w0.heap.size≤b∧b<W1.heap.size)⟩
  have hCw:=hr.mem.size
  have hinv:RInv Y id l i C S w ρs rec 0 true (fun _=>False) S W1 C1 ρ (l.SH i 0) (l.g0 i 0):=by
   refine ⟨rfl,⟨rfl,hr.mem.s0,hr.mem.snew,by show C.w0.heap.size≤W1.heap.size; omega,fun b s e=>hsh1 b s (hr.mem.shape b s e),fun b vs T fz e e'=>hk1.same b vs T fz (hr.mem.s0 b e) (hr.mem.keep b vs T fz e e'),fun b e=>.inl e,fun b hb hx ho=>⟨?_,?_⟩,fun b e=>e.1,fun n e => ?_⟩,
    Y.re hg ⟨by show C.w0.heap.size≤W1.heap.size; omega,fun b s e=>hsh1 b s (hr.mem.shape b s e),fun b hb hx => ?_,fun b vs T fz e e'=>hk1.same b vs T fz (hr.mem.s0 b e) (hr.mem.keep b vs T fz e e'),hr.mem.s0,fun b e=>Nat.lt_of_lt_of_le (hr.mem.sin b e) hk1.size,fun b e => ?_,fun b e=>.inl e,fun b e=>e,fun b e => ?_⟩,
    hr.mem.move2 _ _ _ _ hr.mem.ent (fun _ e=>e) (fun b e=>Nat.lt_of_lt_of_le (hr.mem.sin b e) hk1.size) (fun _ _ _ e=>e) (fun j b e=>⟨(hr.mem.rin j b e).2,(hr.mem.rin j b e).1⟩) hk1 (fun j b e=>hold1 b (hr.mem.rin j b e).1),
    hρs,fun _ e=>e,hk1,hD1,⟨.inr ⟨hCw,by omega⟩,fun e=>by have:=e.2; omega⟩,⟨.inr ⟨by omega,by omega⟩,fun e=>by have:=e.2; omega⟩,fun b e=>e.elim,fun b e e'=>e'.elim,fun b e=>by have:=e.2; omega,fun n h1 h2 => ?_,fun n e=>(hold1 n (Array.getElem?_eq_some_iff.1 e).1).trans e,fun _=>⟨hp0,rfl,rfl,hL1⟩,fun e=>by cases e⟩
   ·rintro ⟨e | e,-⟩
    ·exact ho e
    ·omega
   ·exact (hold1 b (by omega)).trans (hr.mem.old b hb ho)
   ·have:=hr.dk n e
    exact (hold1 n (Array.getElem?_eq_some_iff.1 this).1).trans this
   ·exact (hold1 b (by omega)).trans (hr.mem.old b hb fun e=>hx (Y.ox hg b e))
   ·rcases hr.mem.snew b e with h1 | h1 | h1
    ·exact .inl h1
    ·exact .inr (.inr ⟨h1,by have:=hr.mem.sin b e; omega⟩)
    ·exact .inr (.inl (Y.ox hg b h1))
   ·rcases e.1 with h1 | h1
    ·exact .inl (Y.ox hg b h1)
    ·exact .inr ⟨h1,by have:=e.2; omega⟩
   ·rcases h2 with h2 | h2
    ·exact .inl (Y.ox hg n h2)
    ·exact .inr ⟨h2,by omega⟩
  obtain ⟨xs,hI,hcap⟩:=hI
  obtain ⟨hent,hidl,hI⟩:=hI
  have hcalls:=hI S W1 lb (fun b e=>Nat.lt_of_lt_of_le (hr.mem.sin b e) hk1.size) ⟨hcap.1,fun q c v e1 e2=>(hcap.2 q c v e1 e2).mono hk1 (fun _ e=>e) (Names.le.refl _)⟩ (w.heap.size+1)
   (fun k go X Z W => ∃ C' ρ' H g,RInv Y id l i C S w ρs rec k go X Z W C' ρ' H g)
   (fun {k go X X' Z W W'} hJ h1 h2 h3 h4 h5 h6=>by
    obtain ⟨C',ρ',H,g,hJ⟩:=hJ
    exact ⟨_,ρ',H,g,hJ.abide hCw h1 h2 h3 h4 h5 h6⟩)
   (fun {k X Z Sy W args} hk hJ h1 h2 h3=>by
    obtain ⟨C',ρ',H,g,hJ⟩:=hJ
    exact hJ.round hE hO hmix hrec (hps i) hpN (hA _) (hB _) (hrd i) hCw hCs hmf hr.size hslots ht hk h1 h2 (by rw [← hff k hk]; exact h3))
   ⟨C1,ρ,_,_,hinv⟩
  refine ⟨w.heap.size+1,[{ target:=.collected w.heap.size,args := #[] }],W1,{ target:=.fn (.func gf) lb,args := #[.func (.yield (w.heap.size+1)) #[] #[]] },W1,gf,#[.func (.yield (w.heap.size+1)) #[] #[]] ++ lb,W1,hloop,?_,?_,?_,(fun hd=>by (rw [hF.depth] at hd; cases hd)),?_⟩
  ·simp only [resolve,hev]
   simp [go_sem]
  ·intro f' _; exact hF.fn f'
  ·have e:=hent (#[.func (.yield (w.heap.size+1)) #[] #[]] ++ lb) W1
   simp only [invoke]
   exact e
  ·refine (hF.calls hcalls).mono ?_
   rintro e W2 ⟨v,k,go,X,Z,rfl,⟨C',ρ',H',g',hJ⟩,hgo⟩
   -- behind the iterator
   have hw:=hJ.w0
   have fin:∀ (st:LoopState) (pe:Option Code),W2.heap[w.heap.size+1]? = some (.loop (rec st pe))→st≠.busy → ∃ W3,(Instr.endLoop (w.heap.size+1)).run P W2 = .ok pe W3 ∧ ∃ C5 ρ5 S5,C.Le C5∧Y.G g'.1 g'.2 C5∧Rep C5 N ρ5 S5 (getA (denA (l.SA i))) (getH (denB H')) (fun j=>l.n0≤j) { a with defers:=[{ target:=.collected w.heap.size,args := #[] }] ++ a.defers } W3:=by
    intro st pe hl hst
    have hrun:=run_endLoop (P:=P) hl (by rw [hrec]; exact hst)
    have hpe:(rec st pe).pending=pe:=by rw [hrec]
    rw [hpe] at hrun
    obtain ⟨W3,hrun,hoth,hsz,hio3⟩ : ∃ W3,(Instr.endLoop (w.heap.size+1)).run P W2 = .ok pe W3∧(∀ b,b≠w.heap.size+1→W3.heap[b]? = W2.heap[b]?)∧W3.heap.size=W2.heap.size∧W3.os=W2.os∧W3.output=W2.output:=⟨_,hrun,fun b hb=>World.putObj_heap_other hb,World.putObj_size,rfl,rfl⟩
    refine ⟨W3,hrun,?_⟩
    have hllt:=(Array.getElem?_eq_some_iff.1 hl).1
    clear hrun
    have hcl:∀ (b:Nat) vs T fz,W2.heap[b]? = some (.cells vs T fz)→W3.heap[b]? = some (.cells vs T fz):=fun b vs T fz e=>by
     rw [hoth b (fun e'=>by subst e'; rw [hl] at e; cases e)]; exact e
    have hsh:∀ b s,shp W2 b=some s→shp W3 b=some s:=shp_all hio3 fun b s e=>by
     by_cases hb:b=w.heap.size+1
     ·subst hb; exact (shape?_not e (fun vs T fz=>by rw [hl]; intro e'; cases e')).elim
     ·exact shape?_keep (shape?_of_heap (hoth b hb)) e
    have hdf:∀ n:Nat,W2.heap[n]? = some (.deferred (some []))→W3.heap[n]? = some (.deferred (some [])):=fun n e=>by
     rw [hoth n (fun e'=>by subst e'; rw [hl] at e; cases e)]; exact e
    have hk3:Kept C'.S0 W2 W3:=⟨by omega,hsh,fun b vs T fz _ e=>hcl b vs T fz e⟩
    have hOn:∀ a b,ρ' a=some b→C'.O b:=fun a b e=>by
     obtain ⟨h1,h2⟩:=hJ.mem.rin a b e
     rcases h2 with h2 | h2
     ·exact h2
     ·rw [hw] at h2; omega
    have hne:∀ b,C'.O b→b≠w.heap.size+1:=fun b e e'=>hJ.xl.2 (e' ▸ e)
    have hO5:∀ b,(C'.O b∨((C.O b∨C.w0.heap.size≤b)∧b≤w.heap.size))→C'.X b:=fun b e=>by
     rcases e with e | ⟨e1,e2⟩
     ·have:=Y.ox hJ.gh b e; exact this
     ·rcases Nat.lt_or_ge b w.heap.size with h1 | h1
      ·exact hJ.mkx b h1 e1
      ·have:b=w.heap.size:=by omega
       subst this; exact hJ.xd.1
    refine ⟨⟨W3,C.ρ0,C'.S0,fun b=>C'.O b∨((C.O b∨C.w0.heap.size≤b)∧b≤w.heap.size),C'.X⟩,ρ',C'.S0,⟨rfl,hJ.le.s0,hJ.le.s1,?_,fun b s e=>hsh b s (by have:=hJ.le.shape b s e; rwa [hw] at this),fun b vs T fz e e'=>hcl b vs T fz (by have:=hJ.le.keep b vs T fz e e'; rwa [hw] at this),hJ.le.x,fun b hb hx ho=>⟨?_,?_⟩,fun b e => ?_,fun n e=>hdf n (by have:=hJ.le.dk n e; rwa [hw] at this)⟩,
     Y.re hJ.gh ⟨by rw [hw]; show W2.heap.size≤W3.heap.size; omega,by rw [hw]; exact hsh,fun b hb hx => ?_,fun b vs T fz e e'=>hcl b vs T fz (by rwa [hw] at e'),fun _ e=>e,fun b e=>Nat.lt_of_lt_of_le (hJ.mem.sin b e) hk3.size,fun _ e=>.inl e,fun _ e=>e,fun _ e=>.inl e,hO5⟩,
     hJ.mem.move2 _ _ _ _ (hCs.trans hJ.nm) (fun _ e=>e) (fun b e=>Nat.lt_of_lt_of_le (hJ.mem.sin b e) hk3.size) (fun _ _ _ e=>e) (fun j b e=>Or.inl (hOn j b e)) hk3 (fun j b e=>hoth b (hne b (hOn j b e))),
     hr.size,fun t v e=>(hslots t v e).mono (hJ.kept.trans hk3 hJ.s) hJ.s hJ.nm,?_,fun _ e=>e⟩
    ·have:=hJ.le.size
     rw [hw] at this
     show C.w0.heap.size≤W3.heap.size
     omega
    ·rintro (e | ⟨e | e,-⟩)
     ·exact (hJ.le.same b hb hx ho).1 e
     ·exact ho e
     ·omega
    ·have:=(hJ.le.same b hb hx ho).2
     rw [hw] at this
     exact (hoth b (by omega)).trans this
    ·rcases e with e | e
     ·exact hJ.le.o b e
     ·exact e.1
    ·rw [hw] at hb ⊢
     exact hoth b fun e=>hx (e ▸ hJ.xl.1)
    ·obtain ⟨ns,g1,g2,g3⟩:=hr.marks
     refine ⟨w.heap.size :: ns,by simp [g1],List.nodup_cons.2 ⟨fun e => ?_,g2⟩,fun n hn => ?_⟩
     ·have:=(Array.getElem?_eq_some_iff.1 (g3 _ e).2).1; omega
     ·rcases List.mem_cons.1 hn with rfl | hn
      ·exact ⟨.inl (.inr ⟨.inr hCw,Nat.le_refl _⟩),hdf _ hJ.d⟩
      ·obtain ⟨g4,g5⟩:=g3 n hn
       have:=(Array.getElem?_eq_some_iff.1 g5).1
       exact ⟨.inl (.inr ⟨g4,by omega⟩),hdf n (hJ.dkw n g5)⟩
   cases hgo':go with
   | true =>
    obtain ⟨g1,g2,g3,g4⟩:=hJ.on hgo'
    have hkn:=hgo hgo'
    subst hkn
    obtain ⟨W3,h1,C5,ρ5,S5,h2,h3,h4⟩:=fin _ _ g4 (by simp)
    refine ⟨none,W3,h1,?_⟩
    subst g2; subst g3
    exact ⟨C5,ρ5,S5,_,_,⟨l.n0,_,_⟩,h2,h3,h4,ht,_,_,rfl,rfl,hdone g1⟩
   | false =>
    obtain ⟨q,rfl,hq,g1,g2,g3,c,g4,g5⟩:=hJ.off hgo'
    obtain ⟨W3,h1,C5,ρ5,S5,h2,h3,h4⟩:=fin _ _ g4 (by simp)
    refine ⟨some c,W3,h1,?_⟩
    subst g2
    rcases g5 with ⟨rfl,g5⟩ | ⟨rfl,g5⟩
    ·exact wpIn_ret ⟨C5,ρ5,S5,_,_,⟨l.n0,_,_⟩,h2,h3,h4,ht,_,_,rfl,rfl,gAll_ok (hret q hq g1 g5) g3⟩
    ·refine wpIn_exit ?_
     simp only [Exit.inBlock,if_true]
     exact ⟨C5,ρ5,S5,_,_,⟨l.n0,_,_⟩,h2,h3,h4,ht,_,_,rfl,rfl,gAll_ok (hbrk q hq g1 g5) g3⟩
 ·exact hrf.elim
end
end Go.Proofs.Ytoncoofmijjgeaa.Sep
namespace Go.Proofs.Ytoncoofmijjgeaa.Sep
open Go
set_option linter.unusedVariables false
set_option linter.unusedSimpArgs false
def eqFs (P : Program) (eq : TypeId → Option (List Nat)) : Nat → List Field → Option (List Nat)
  | _, [] => some []
  | o, f :: fs =>
    match f.name == "_", Nat.beq f.offset o, eq f.type, tyOf P f.type with
    | false, true, some ks, some u =>
      match Nat.beq (if u.agg then u.size else 1) ks.length && Nat.blt 0 ks.length with
      | true => match eqFs P eq (o + ks.length) fs with
        | some r => some (ks ++ r)
        | none => none
      | false => none
    | _, _, _, _ => none
def eqKs (P : Program) : Nat → TypeId → Option (List Nat)
  | 0, _ => none
  | d + 1, T =>
    match P.underlying T with
    | some .bool => some [4]
    | some (.int _) => some [5]
    | some .string => some [6]
    | some (.struct fs) => match P.stoodInHeld T with
      | false => eqFs P (eqKs P d) 0 fs.toList
      | true => none
    | _ => none
def isSt (P : Program) (T : TypeId) : Bool := match P.underlying T with
  | some (.struct _) => true
  | _ => false
def eqCk (P : Program) (T : TypeId) (ks : List Nat) : Bool := !(P.eqGuardType P.depth T) && isSt P T && decide (eqKs P 100 T = some ks)
theorem eqVs_cons {k : Nat} {ks : List Nat} {xs ys : List Value} {r : Bool} (h : eqVs (k :: ks) xs ys = some r) : ∃ x y xs' ys' a b, xs = x :: xs' ∧ ys = y :: ys' ∧ eqVs ks xs' ys' = some b ∧ r = (a && b) ∧ ∀ ls us vs q, eqVs ls us vs = some q → eqVs (k :: ls) (x :: us) (y :: vs) = some (a && q) := by
  unfold eqVs at h
  split at h
  · have := ‹k :: ks = []›; cases this
  · have e := ‹k :: ks = 5 :: _›
    obtain ⟨rfl, rfl⟩ := List.cons.inj e
    split at h
    · rename_i hk
      simp only [Option.map_eq_some_iff] at h
      obtain ⟨q, hq, rfl⟩ := h
      exact ⟨_, _, _, _, _, q, rfl, rfl, hq, rfl, fun ls us vs q' h' => by simp only [eqVs, hk, if_true, h', Option.map_some]⟩
    · cases h
  · have e := ‹k :: ks = 4 :: _›
    obtain ⟨rfl, rfl⟩ := List.cons.inj e
    simp only [Option.map_eq_some_iff] at h
    obtain ⟨q, hq, rfl⟩ := h
    exact ⟨_, _, _, _, _, q, rfl, rfl, hq, rfl, fun ls us vs q' h' => by simp only [eqVs, h', Option.map_some]⟩
  · have e := ‹k :: ks = 6 :: _›
    obtain ⟨rfl, rfl⟩ := List.cons.inj e
    simp only [Option.map_eq_some_iff] at h
    obtain ⟨q, hq, rfl⟩ := h
    exact ⟨_, _, _, _, _, q, rfl, rfl, hq, rfl, fun ls us vs q' h' => by simp only [eqVs, h', Option.map_some]⟩
  · cases h
theorem eqVs_len : ∀ {ks : List Nat} {xs ys : List Value} {r : Bool}, eqVs ks xs ys = some r → xs.length = ks.length ∧ ys.length = ks.length := by
  intro ks
  induction ks with
  | nil => intro xs ys r h; cases xs <;> cases ys <;> simp [eqVs] at h ⊢
  | cons k ks ih =>
    intro xs ys r h
    obtain ⟨x, y, xs', ys', a, b, rfl, rfl, h1, -, -⟩ := eqVs_cons h
    have := ih h1
    simp [this]
theorem eqVs_append : ∀ {ks ls : List Nat} {xs ys : List Value} {r : Bool}, eqVs (ks ++ ls) xs ys = some r → ∃ a b, eqVs ks (xs.take ks.length) (ys.take ks.length) = some a ∧ eqVs ls (xs.drop ks.length) (ys.drop ks.length) = some b ∧ r = (a && b) := by
  intro ks
  induction ks with
  | nil => intro ls xs ys r h; exact ⟨true, r, rfl, by simpa using h, by simp⟩
  | cons k ks ih =>
    intro ls xs ys r h
    obtain ⟨x, y, xs', ys', a, b, rfl, rfl, h1, rfl, h3⟩ := eqVs_cons h
    obtain ⟨c, d, h4, h5, rfl⟩ := ih h1
    exact ⟨_, d, by simpa using h3 _ _ _ _ h4, by simpa using h5, by rw [Bool.and_assoc]⟩
theorem eqVs_4 {x y : Value} {r : Bool} (h : eqVs [4] [x] [y] = some r) : ∃ a b, x = .bool a ∧ y = .bool b ∧ r = (a == b) := by
  cases x <;> cases y <;> simp [eqVs] at h ⊢ <;> exact h.symm
theorem eqVs_5 {x y : Value} {r : Bool} (h : eqVs [5] [x] [y] = some r) : ∃ k a b, x = .int k a ∧ y = .int k b ∧ r = (a == b) := by
  cases x <;> cases y <;> simp [eqVs] at h
  obtain ⟨rfl, h2⟩ := h
  exact ⟨_, _, _, rfl, rfl, h2.symm⟩
theorem eqVs_6 {x y : Value} {r : Bool} (h : eqVs [6] [x] [y] = some r) : ∃ a b, x = .string a ∧ y = .string b ∧ r = (a == b) := by
  cases x <;> cases y <;> simp [eqVs] at h ⊢ <;> exact h.symm
theorem eqVs_one {ks : List Nat} {xs ys : List Value} {r : Bool} {k : Nat} (hk : ks = [k]) (h : eqVs ks xs ys = some r) : ∃ x y, xs = [x] ∧ ys = [y] := by
  have := eqVs_len h
  subst hk
  obtain ⟨h1, h2⟩ := this
  match xs, ys, h1, h2 with
  | [x], [y], _, _ => exact ⟨x, y, rfl, rfl⟩
def valOf (agg : Bool) (xs : List Value) : Value := if agg then .agg xs.toArray else xs.getD 0 undef
theorem run_part {P : Program} {T : TypeId} {u : Ty} (hu : tyOf P T = some u) {xs : List Value} {o : Nat} {n : Nat} (hn : (if u.agg then u.size else 1) = n) (hl : o + n ≤ xs.length) (w : World) : (part T xs.toArray o).run P w = .ok (valOf u.agg ((xs.drop o).take n)) w := by
  have ha := run_isAgg_ty hu w
  have hs := run_sizeOf_ty hu w
  cases hg : u.agg
  · rw [hg] at ha hn
    simp at hn
    subst hn
    have : o < xs.length := by omega
    simp [part, ha, valOf, this, List.getD, List.head?_drop]
  · rw [hg] at ha hn
    simp at hn
    simp [part, ha, hs, valOf, hn]
theorem eqFs_run {P : Program} {d D : Nat} (ih : ∀ (T : TypeId) (ks : List Nat) (u : Ty), eqKs P d T = some ks → tyOf P T = some u → ∀ (w : World) (xs ys : List Value) (r : Bool), eqVs ks xs ys = some r → (Op.equalIn D T (valOf u.agg xs) (valOf u.agg ys)).run P w = .ok r w) :
    ∀ (fs : List Field) (o : Nat) (ks : List Nat), eqFs P (eqKs P d) o fs = some ks → ∀ (w : World) (xs ys : List Value) (r : Bool), eqVs ks (xs.drop o) (ys.drop o) = some r → (Op.eqFields D xs.toArray ys.toArray fs).run P w = .ok r w := by
  intro fs
  induction fs with
  | nil => intro o ks h w xs ys r hr; simp only [eqFs, Option.some.injEq] at h; subst h; have := eqVs_len hr; simp at this; obtain ⟨h1, h2⟩ := this
           have e1 : xs.drop o = [] := List.drop_eq_nil_of_le (by omega)
           have e2 : ys.drop o = [] := List.drop_eq_nil_of_le (by omega)
           rw [e1, e2] at hr
           simp [eqVs] at hr; subst hr
           simp [Op.eqFields]
  | cons f fs ihf =>
    intro o ks h w xs ys r hr
    simp only [eqFs] at h
    split at h
    · rename_i ks1 u hname hoff hk1 hu
      have hoff := beq_true hoff
      split at h
      · rename_i hlen
        simp only [Bool.and_eq_true] at hlen
        have hpos := blt_true hlen.2
        have hlen := beq_true hlen.1
        split at h
        · rename_i r' hr'
          cases h
          have hl := eqVs_len hr
          simp at hl
          obtain ⟨a, b, e1, e2, rfl⟩ := eqVs_append hr
          have hne : f.name ≠ "_" := by simpa using hname
          have p1 := run_part hu (xs := xs) (o := o) hlen (by omega) w
          have p2 := run_part hu (xs := ys) (o := o) hlen (by omega) w
          have p3 := ih f.type ks1 u hk1 hu w _ _ a e1
          have p4 := ihf (o + ks1.length) r' hr' w xs ys b (by rw [List.drop_drop] at e2; rw [List.drop_drop] at e2; exact e2)
          simp only [Op.eqFields, hne, ne_eq, not_false_eq_true, if_true, Sem.run_bind, hoff, p1, p2, p3, Result.andThen_ok, Sem.run_ite]
          cases a
          · simp
          · simp [p4]
        · cases h
      · cases h
    · cases h
theorem eqKs_run {P : Program} : ∀ (d D : Nat), d ≤ D → ∀ (T : TypeId) (ks : List Nat) (u : Ty), eqKs P d T = some ks → tyOf P T = some u → ∀ (w : World) (xs ys : List Value) (r : Bool), eqVs ks xs ys = some r → (Op.equalIn D T (valOf u.agg xs) (valOf u.agg ys)).run P w = .ok r w := by
  intro d
  induction d with
  | zero => intro D _ T ks u h; cases h
  | succ d ih =>
    intro D hD T ks u h hu w xs ys r hr
    obtain ⟨D, rfl⟩ : ∃ E, D = E + 1 := ⟨D - 1, by omega⟩
    obtain ⟨i0, dd, zz, hi, hd, -, -, -, -, hagg, -⟩ := tyOf_inv hu
    simp only [eqKs] at h
    rw [hd] at h
    split at h
    · rename_i e; cases e; cases h
      obtain ⟨x, y, rfl, rfl⟩ := eqVs_one rfl hr
      simp only at hagg
      simp only [valOf, hagg, Bool.false_eq_true, if_false, List.getD_cons_zero]
      obtain ⟨a, b, rfl, rfl, rfl⟩ := eqVs_4 hr
      exact run_equalIn_bool' w D T _ _ hd
    · rename_i e; cases e; cases h
      obtain ⟨x, y, rfl, rfl⟩ := eqVs_one rfl hr
      simp only at hagg
      simp only [valOf, hagg, Bool.false_eq_true, if_false, List.getD_cons_zero]
      obtain ⟨k, a, b, rfl, rfl, rfl⟩ := eqVs_5 hr
      exact run_equalIn_int w D T _ _ _ _ hd
    · rename_i e; cases e; cases h
      obtain ⟨x, y, rfl, rfl⟩ := eqVs_one rfl hr
      simp only at hagg
      simp only [valOf, hagg, Bool.false_eq_true, if_false, List.getD_cons_zero]
      obtain ⟨a, b, rfl, rfl, rfl⟩ := eqVs_6 hr
      rw [beq_toListBytes]
      exact run_equalIn_string w D T _ _ hd
    · rename_i fs e; cases e
      split at h
      · rename_i hst
        simp only at hagg
        simp only [valOf, hagg, if_true]
        have hfs : P.fieldsOf T = fs := by simp [Program.fieldsOf, hd]
        rw [run_equalIn_agg w D T _ _ (by rw [hfs]; exact hd) hst, hfs]
        exact eqFs_run (fun T ks u h1 h2 => ih D (by omega) T ks u h1 h2) fs.toList 0 ks h w xs ys r (by simpa using hr)
      · cases h
    · cases h
theorem eqCk_ok {P : Program} {T : TypeId} {ks : List Nat} (h : eqCk P T ks = true) (hu : (tyOf P T).isSome = true) : EqOK P T ks := by
  simp only [eqCk, Bool.and_eq_true, Bool.not_eq_true', decide_eq_true_eq] at h
  obtain ⟨⟨h1, h2⟩, h3⟩ := h
  refine ⟨h1, fun w xs ys r hr => ?_⟩
  obtain ⟨u, hu⟩ := Option.isSome_iff_exists.1 hu
  have hagg : u.agg = true := by
    obtain ⟨i0, dd, zz, hi, hd, -, -, -, -, hagg, -⟩ := tyOf_inv hu
    unfold isSt at h2
    rw [hd] at h2
    rw [hagg]
    split at h2
    · rename_i e; cases e; rfl
    · cases h2
  have := eqKs_run 100 10000 (by omega) T ks u h3 hu w xs ys r hr
  simp only [valOf, hagg, if_true] at this
  exact this
end Go.Proofs.Ytoncoofmijjgeaa.Sep
namespace Go.Proofs.Ytoncoofmijjgeaa.Sep
open Go
set_option linter.unusedVariables false
set_option linter.unusedSimpArgs false
noncomputable abbrev PP:Program:=Try.prog
theorem hmix:PP.follows .mixedOrders=true:=by kernel_rfl
def bodyOf (f:Func):Code:=match f.body with
 | some c=>c
 | none=>.skip
def isFn (f : Func) (n : Nat) : Bool := f.body.isSome && !(f.name == "runtime.NumGoroutine") && Nat.ble n f.ntmps
def blkIn (id:Nat):Code→Option Code
 | .seq x y=>match blkIn id x with
  | some c=>some c
  | none=>blkIn id y
 | .cond _ x y=>match blkIn id x with
  | some c=>some c
  | none=>blkIn id y
 | .block j c=>match Nat.beq j id with
  | true=>some c
  | false=>blkIn id c
 | .loop c=>blkIn id c
 | .rangeFunc _ _ x y=>match blkIn id x with
  | some c=>some c
  | none=>blkIn id y
 | _=>none
def blkAt (id:Nat) (f:Func):Code:=match blkIn id (bodyOf f) with
 | some c=>c
 | none=>.skip
def loopIn:Code→Code
 | .loop c=>c
 | _=>.skip
def rfFn:Code→Operand
 | .rangeFunc g _ _ _=>g
 | _=>.const undef
def rfPs:Code→Array Tmp
 | .rangeFunc _ ps _ _=>ps
 | _ => #[]
def rfAssign:Code→Code
 | .rangeFunc _ _ c _=>c
 | _=>.skip
def rfBody:Code→Code
 | .rangeFunc _ _ _ c=>c
 | _=>.skip
abbrev V (ck:Bool) (E:Eqs) (O:Orc) (f:Func) (L:List Nat) (LO:Loops) (xs:List SV) (r:SV):Prop :=
 vcS PP E O ck YS.none f.ntmps L LO (bodyOf f) (retS PP f.results.toList r []) (argsS 0 xs) [] ⟨0,0,false⟩
abbrev VI (ck:Bool) (E:Eqs) (O:Orc) (f:Func) (L:List Nat) (LO:Loops) (xs:List SV) (l n:Nat) (g:Nat→List SV):Prop :=
 vcS PP E O ck ⟨true,l,n,g⟩ f.ntmps L LO (bodyOf f) (retI f.results.toList n) (argsS 0 (.lit (.func (.yield l) #[] #[]) :: xs)) [] ⟨0,0,true⟩
abbrev VL (ck:Bool) (E:Eqs) (O:Orc) (ys:YS) (f:Func) (m:Nat) (L:List Nat) (LI:Loops) (id:Nat) (l:LoopS) (i:l.ι):Prop :=
 vcS PP E O ck ys f.ntmps L LI (loopIn (blkAt id f)) (roundQ ys.on f.ntmps m id l i) (l.SA i) (l.SH i) ⟨l.n0,(l.g0 i).1,(l.g0 i).2⟩
abbrev VR (ck:Bool) (E:Eqs) (O:Orc) (ys:YS) (f:Func) (L:List Nat) (LI:Loops) (id:Nat) (l:RangeS) (i:l.ι) (k:Nat):Prop :=
 vcS PP E O ck ys f.ntmps L LI (rfAssign (blkAt id f)) (onlyN (vcS PP E O ck ys f.ntmps L LI (rfBody (blkAt id f)) (rfQ ys.on f.ntmps id l i k))) (paramS (rfPs (blkAt id f)).toList (l.f i k) (l.SA i)) (l.SH i k) ⟨l.n0,(l.g0 i k).1,(l.g0 i k).2⟩
structure Hold (p:Prop):Prop where
 out:p
theorem Hold.of {p q:Prop} (h:p=q) (hq:q):Hold p:=⟨h.mpr hq⟩
theorem isFn_inv {f : Func} {n : Nat} (hn : isFn f n = true) : (f.name == "runtime.NumGoroutine") = false ∧ f.body = some (bodyOf f) ∧ n ≤ f.ntmps := by
 simp only [isFn,Bool.and_eq_true,Bool.not_eq_true'] at hn
 obtain ⟨⟨h1,h2⟩,h3⟩:=hn
 refine ⟨h2,?_,Nat.le_of_ble_eq_true h3⟩
 cases hb:f.body with
 | none=>rw [hb] at h1; cases h1
 | some c=>simp [bodyOf,hb]
section
variable {E : Eqs} (hE : EqsOK PP E) {O : Orc} (hO : OrcOK PP O) {ck : Bool} {L : List Nat}
include hE hO
theorem enter {LO:Loops} {k:FuncId} {f:Func} {xs:List SV} {r:SV} (hf:PP.funcs[k]? = some f) (hn:isFn f xs.length=true)
  (hL:∀ Y:YEnv PP YS.none,LoopsOK Y Fence.wide f.ntmps 0 LO (bodyOf f)) (h:Hold (V ck E O f L LO xs r)):Pure PP k (SV.denL xs) r.den:=by
 obtain ⟨h1,h2,h3⟩:=isFn_inv hn
 exact Spec.enterS hE hO hmix ck L LO hf h1 h2 h3 (Hs:=[]) (Hs':=[]) rfl hL h.out
theorem enterI {LO:Nat→Loops} {k:FuncId} {f:Func} {xs:List SV} {n:Nat} {g:Nat→List SV} (hf:PP.funcs[k]? = some f) (hn:isFn f (xs.length+1)=true) (hidl:∀ k,AV.idlessL (SV.denL (g k))=true)
  (hL:∀ l (Y:YEnv PP ⟨true,l,n,g⟩),LoopsOK Y Fence.wide f.ntmps 0 (LO l) (bodyOf f)) (h:∀ l,Hold (VI ck E O f L (LO l) xs l n g)):Iter PP k xs n g:=by
 obtain ⟨h1,h2,h3⟩:=isFn_inv hn
 exact Iter.enterS hE hO hmix ck L LO hf h1 h2 h3 hidl hL fun l=>(h l).out
theorem loopW {ys:YS} (Y:YEnv PP ys) {F:Fence} (hF:FOK F) {f:Func} {m id:Nat} {l:LoopS} {LI:l.ι→Loops} {par:SSlots→SBlks→Cnt→l.ι} (hc:blkAt id f = .loop (loopIn (blkAt id f))) (hI:∀ i,LoopsOK Y F f.ntmps m (LI i) (loopIn (blkAt id f)))
  (h:∀ i,l.pre i→Hold (VL ck E O ys f m L (LI i) id l i)):∀ Q A H nx,loopT ys.on f.ntmps m l par Q A H nx→WPS Y F f.ntmps m (.block id (blkAt id f)) Q A H nx:=by
 rw [hc]
 exact loopT_ok fun i hp=>vcS_sound hE hO hF hmix _ (hI i) _ _ _ _ (h i hp).out
theorem rangeW {ys:YS} (Y:YEnv PP ys) {F:Fence} (hF:FOK F) (hr:F.round=none) {gf:FuncId} {it:List SV→Option (List Prop × Nat × (Nat→List SV))} (hit:IterOK PP gf it) {f:Func} {m id:Nat} {l:RangeS} {LI:Loops} {par:SSlots→SBlks→Cnt→l.ι}
  (hc:blkAt id f = .rangeFunc (rfFn (blkAt id f)) (rfPs (blkAt id f)) (rfAssign (blkAt id f)) (rfBody (blkAt id f))) (hps:∀ i k,(l.f i k).length=(rfPs (blkAt id f)).size) (hpN:(rfPs (blkAt id f)).toList.all (fun p=>Nat.blt p f.ntmps)=true)
  (hA:∀ b,LoopsOK Y (Fence.wide.inRound b) f.ntmps l.mf LI (rfAssign (blkAt id f))) (hB:∀ b,LoopsOK Y (Fence.wide.inRound b) f.ntmps l.mf LI (rfBody (blkAt id f)))
  (h:∀ i k,k<l.cnt i→l.pre i k→Hold (VR ck E O ys f L LI id l i k)):∀ Q A H nx,rangeT ys.on f.ntmps m (rfFn (blkAt id f)) gf it l par Q A H nx→WPS Y F f.ntmps m (.block id (blkAt id f)) Q A H nx:=by
 intro Q A H nx hT
 have:=rangeT_ok hE hO hmix hF hr hit hps hpN hA hB (fun i k hk hp=>(h i k hk hp).out) Q A H nx hT
 rw [← hc] at this
 exact this
end
theorem EqsOK.nil {P:Program} : EqsOK P []:=fun p h=>by cases h
theorem EqsOK.cons {P:Program} {E:Eqs} {T:TypeId} {ks:List Nat} (h:EqOK P T ks) (hE:EqsOK P E):EqsOK P ((T,ks) :: E):=fun p hp=>by
 rcases List.mem_cons.1 hp with rfl | hp
 ·exact h
 ·exact hE p hp
def eqs:Eqs:=[(23,[5,5]),(59,[5,5,5,5,5]),(105,[5,5,5,5,5,5])]
theorem eqsok:EqsOK PP eqs:=(.cons (eqCk_ok (by kernel_rfl) (by kernel_rfl)) (.cons (eqCk_ok (by kernel_rfl) (by kernel_rfl)) (.cons (eqCk_ok (by kernel_rfl) (by kernel_rfl)) .nil)))
def asI (x:SV):Int:=match x with
 | .int _ n=>n
 | _=>0
def asB (x:SV):Bool:=match x with
 | .bool b=>b
 | _=>false
def asN (x:SV):Nat:=match x with
 | .sl _ n _=>n
 | .vec _ _ _ n=>n
 | _=>0
def asF (x:SV):Nat→List SV:=match x with
 | .sl _ _ f=>f
 | _=>fun _=>[]
def SLe (x y:SV):Prop:=x.den.le y.den
inductive SLeL:List SV→List SV→Prop
 | nil:SLeL [] []
 | cons {x y:SV} {xs ys:List SV} (h:SLe x y) (hs:SLeL xs ys):SLeL (x :: xs) (y :: ys)
theorem SLe.refl (x:SV):SLe x x:=AV.le.refl _
theorem SLeL.refl:∀ xs:List SV,SLeL xs xs
 | []=>.nil
 | x :: xs=>.cons (.refl x) (.refl xs)
theorem SLeL.to {xs ys:List SV} (h:SLeL xs ys):LeL (SV.denL xs) (SV.denL ys):=by
 induction h with
 | nil=>trivial
 | cons h _ ih=>exact ⟨h,ih⟩
theorem SLe.agg {xs ys:List SV} (h:SLeL xs ys):SLe (.agg xs) (.agg ys):=by
 unfold SLe; simp only [SV.den]; exact AV.le.agg h.to
theorem SLe.tup {xs ys:List SV} (h:SLeL xs ys):SLe (.tup xs) (.tup ys):=by
 unfold SLe; simp only [SV.den]; exact AV.le.tup h.to
theorem SLe.fn {f:FuncId} {xs ys cs ds:List SV} (h:SLeL xs ys) (h':SLeL cs ds):SLe (.fn f xs cs) (.fn f ys ds):=fun S w ρ v hv=>by
 simp only [SV.den] at hv ⊢
 obtain ⟨us,vs,rfl,h1,h2,h3,h4⟩:=hv.fn_inv
 refine .fn (by rw [h1,h.to.len]) (fun k c u e1 e2 => ?_) (by rw [h3,h'.to.len]) (fun k c u e1 e2 => ?_)
 ·obtain ⟨x,hx,hle⟩:=h.to.get e1
  exact hle _ _ _ _ (h2 k x u hx e2)
 ·obtain ⟨x,hx,hle⟩:=h'.to.get e1
  exact hle _ _ _ _ (h4 k x u hx e2)
theorem SLe.sl {s n:Nat} {f g:Nat→List SV} (h:∀ k,k<n→SLeL (f k) (g k)):SLe (.sl s n f) (.sl s n g):=by
 unfold SLe; simp only [SV.den]; exact AV.le.vsl (rows_le fun k hk=>(h k hk).to)
theorem SLe.ref {s:Nat} {f:Nat→List SV} {cs ds:List SV} {j:Nat} (e:f 0=cs) (h:SLeL cs ds):SLe (.sptr s 1 f 0 j) (.sptr s 1 (fun _=>ds) 0 j):=by
 unfold SLe
 simp only [SV.den]
 exact AV.le.vptr (rows_le fun k hk=>by
  have:k=0:=by omega
  subst this
  rw [e]; exact h.to)
def cI (f:Nat→List SV) (j:Nat) (k:Nat):Int:=asI ((f k).getD j .top)
def rowI (f:Nat→List SV) (k:Nat):Nat→Nat→List SV
 | 0,_=>[]
 | n+1,j=>SI (cI f j k) :: rowI f k n (j+1)
def Row (n m:Nat) (f:Nat→List SV):Prop:=∀ k,k<m→leRow le0 (f k) (rowI f k n 0)
theorem leRow_to {g:SV→SV→Prop} (hg:LeOK g):∀ (xs ys:List SV),leRow g xs ys→SLeL xs ys
 | [],[],_=>.nil
 | [x],[y],h=>.cons (hg _ _ h) .nil
 | [x],y :: z :: ys,h=>h.elim
 | x :: z :: xs,y :: ys,h=>.cons (hg _ _ h.1) (leRow_to hg (z :: xs) ys h.2)
 | [],y :: ys,h=>h.elim
 | x :: xs,[],h=>by unfold leRow at h; exact h.elim
theorem SLe.row {n m:Nat} {f g:Nat→List SV} (h:Row n m f) (e:∀ k,g k=rowI f k n 0):SLe (.sl n m f) (.sl n m g):=.sl fun k hk=>by rw [e]; exact leRow_to le0_ok _ _ (h k hk)
theorem Spec.args {P:Program} {f:FuncId} {xs ys:List SV} {Hs Hs':List Blk} {r:AV} (hs:Spec P f (SV.denL ys) Hs r Hs') (h:SLeL xs ys):Spec P f (SV.denL xs) Hs r Hs':=by
 refine ⟨hs.1,hs.2.1,fun ρ0 S w vs hm hr=>hs.2.2 ρ0 S w vs hm ⟨by rw [hr.1,h.to.len],fun k c v e1 e2 => ?_⟩⟩
 obtain ⟨x,hx,hle⟩:=h.to.get e1
 exact hle _ _ _ _ (hr.2 k x v hx e2)
theorem Iter.args {P:Program} {g:FuncId} {xs ys:List SV} {n:Nat} {f:Nat→List SV} (hs:Iter P g ys n f) (h:SLeL xs ys):Iter P g xs n f:=by
 refine ⟨hs.1,hs.2.1,fun S0 W0 vs h0 hr=>hs.2.2 S0 W0 vs h0 ⟨by rw [hr.1,h.to.len],fun k c v e1 e2 => ?_⟩⟩
 obtain ⟨x,hx,hle⟩:=h.to.get e1
 exact hle _ _ _ _ (hr.2 k x v hx e2)
end Go.Proofs.Ytoncoofmijjgeaa.Sep
namespace Go.Proofs.Ytoncoofmijjgeaa.Sep
open Go
set_option linter.unusedVariables false
set_option linter.unusedSimpArgs false
def rN (G:Nat→List SV) (i:Nat):Nat:=asN ((G i).getD 0 .top)
def rF (G:Nat→List SV) (i:Nat):Nat→List SV:=asF ((G i).getD 0 .top)
def RowN (n nl:Nat) (G:Nat→List SV):Prop:=∀ i,i<nl→leRow leA (G i) [.sl n (rN G i) (fun k=>rowI (rF G i) k n 0)]
theorem SLe.rowN {n nl:Nat} {f g:Nat→List SV} (h:RowN n nl f) (e:∀ i,g i=[.sl n (rN f i) (fun k=>rowI (rF f i) k n 0)]):SLe (.sl 1 nl f) (.sl 1 nl g):=.sl fun k hk=>by rw [e]; exact leRow_to leA_ok _ _ (h k hk)
end Go.Proofs.Ytoncoofmijjgeaa.Sep
namespace Go.Proofs.Ytoncoofmijjgeaa.Sep
open Go
set_option linter.unusedVariables false
set_option linter.unusedSimpArgs false
mutual
def SV.ren (σ:Nat→Nat):SV→SV
 | .ptr i off=>.ptr (σ i) off
 | .rptr i sz n j=>.rptr (σ i) sz n j
 | .vec i sz lo len=>.vec (σ i) sz lo len
 | .agg cs=>.agg (SV.renL σ cs)
 | .tup cs=>.tup (SV.renL σ cs)
 | .fn f xs cs=>.fn f (SV.renL σ xs) (SV.renL σ cs)
 | .when g x=>.when g (x.ren σ)
 | .top=>.top
 | .lit v=>.lit v
 | .int k n=>.int k n
 | .bool b=>.bool b
 | .sl sz n f=>.sl sz n f
 | .sptr sz n f k j=>.sptr sz n f k j
def SV.renL (σ:Nat→Nat):List SV→List SV
 | []=>[]
 | c :: cs=>c.ren σ :: SV.renL σ cs
end
mutual
theorem ren_den (σ:Nat→Nat):∀ x:SV,(x.ren σ).den=x.den.ren σ
 | .ptr .. | .rptr .. | .vec .. | .top | .lit _ | .int .. | .bool _ | .sl .. | .sptr .. => by simp [SV.ren,SV.den,AV.ren]
 | .agg cs=>by simp [SV.ren,SV.den,AV.ren,svRenL_den σ cs]
 | .tup cs=>by simp [SV.ren,SV.den,AV.ren,svRenL_den σ cs]
 | .fn f xs cs=>by simp [SV.ren,SV.den,AV.ren,svRenL_den σ xs,svRenL_den σ cs]
 | .when g x=>by simp [SV.ren,SV.den,AV.ren,ren_den σ x]
theorem svRenL_den (σ:Nat→Nat):∀ xs:List SV,SV.denL (SV.renL σ xs)=AV.renL σ (SV.denL xs)
 | []=>by simp [SV.renL,SV.denL,AV.renL]
 | x :: xs=>by simp [SV.renL,SV.denL,AV.renL,ren_den σ x,svRenL_den σ xs]
end
mutual
def SV.ids:SV→List Nat
 | .ptr i _=>[i]
 | .rptr i _ _ _=>[i]
 | .vec i _ _ _=>[i]
 | .agg cs=>SV.idsL cs
 | .tup cs=>SV.idsL cs
 | .fn _ xs cs=>SV.idsL xs ++ SV.idsL cs
 | .when _ x=>x.ids
 | _=>[]
def SV.idsL:List SV→List Nat
 | []=>[]
 | c :: cs=>c.ids ++ SV.idsL cs
end
mutual
theorem ren_back {σ τ:Nat→Nat} : ∀ x:SV,(∀ i ∈ x.ids,σ (τ i)=i)→(x.ren τ).ren σ=x
 | .ptr i _,h | .rptr i _ _ _,h | .vec i _ _ _,h=>by simp [SV.ren,SV.ids] at h ⊢; exact h
 | .top,_ | .lit _,_ | .int ..,_ | .bool _,_ | .sl ..,_ | .sptr ..,_=>by simp [SV.ren]
 | .agg cs,h=>by simp only [SV.ren,renL_back cs (fun i hi=>h i (by simpa [SV.ids] using hi))]
 | .tup cs,h=>by simp only [SV.ren,renL_back cs (fun i hi=>h i (by simpa [SV.ids] using hi))]
 | .fn f xs cs,h=>by simp only [SV.ren,renL_back xs (fun i hi=>h i (by simp [SV.ids,hi])),renL_back cs (fun i hi=>h i (by simp [SV.ids,hi]))]
 | .when g x,h=>by simp only [SV.ren,ren_back x (fun i hi=>h i (by simpa [SV.ids] using hi))]
theorem renL_back {σ τ:Nat→Nat} : ∀ xs:List SV,(∀ i ∈ SV.idsL xs,σ (τ i)=i)→SV.renL σ (SV.renL τ xs)=xs
 | [],_=>by simp [SV.renL]
 | x :: xs,h=>by simp only [SV.renL,ren_back x (fun i hi=>h i (by simp [SV.idsL,hi])),renL_back xs (fun i hi=>h i (by simp [SV.idsL,hi]))]
end
def SBlk.ren (σ:Nat→Nat):SBlk→SBlk
 | .cells cs=>.cells (SV.renL σ cs)
 | .dead=>.dead
 | .row sz n f=>.row sz n f
def SBlk.ids:SBlk→List Nat
 | .cells cs=>SV.idsL cs
 | _=>[]
def SBlk.live:SBlk→Bool
 | .dead=>false
 | _=>true
def SBlk.low (m:Nat):SBlk→Bool
 | .cells cs=>SV.lowL m cs
 | _=>true
theorem SBlk.ren_den (σ:Nat→Nat) (b:SBlk):(b.ren σ).den=b.den.ren σ:=by cases b <;> simp [SBlk.ren,SBlk.den,Blk.ren,svRenL_den]
theorem SBlk.ren_back {σ τ:Nat→Nat} (b:SBlk) (h:∀ i ∈ b.ids,σ (τ i)=i):(b.ren τ).ren σ=b:=by
 cases b with
 | cells cs=>simp only [SBlk.ren,renL_back cs h]
 | dead=>rfl
 | row sz n f=>rfl
theorem SBlk.live_den (b:SBlk):b.den.live=b.live:=by cases b <;> rfl
theorem SBlk.low_den {m:Nat} {b:SBlk} (h:b.low m=true):b.den.idsLt m=true:=by
 cases b with
 | cells cs=>simp only [SBlk.den,Blk.idsLt]; exact lowL_den cs h
 | dead=>rfl
 | row sz n f=>rfl
def inL (i:Nat):List Nat→Bool
 | []=>false
 | j :: js=>match Nat.beq j i with
  | true=>true
  | false=>inL i js
theorem inL_mem {i:Nat} : ∀ {js:List Nat},inL i js=true→i ∈ js
 | j :: js,h=>by
  unfold inL at h
  split at h
  ·rename_i e; have:=beq_true e; subst this; simp
  ·exact List.mem_cons_of_mem _ (inL_mem h)
theorem inL_not {i:Nat} : ∀ {js:List Nat},inL i js=false→i ∉ js
 | [],_=>by simp
 | j :: js,h=>by
  unfold inL at h
  split at h
  ·cases h
  ·rename_i e
   have:=beq_false e
   simp only [List.mem_cons,not_or]
   exact ⟨fun e'=>this e'.symm,inL_not h⟩
def allIn (is:List Nat):List Nat→Bool
 | []=>true
 | j :: js=>match inL j is with
  | true=>allIn is js
  | false=>false
theorem allIn_mem {is:List Nat} : ∀ {js:List Nat},allIn is js=true→∀ j ∈ js,j ∈ is
 | j :: js,h,i,hi=>by
  unfold allIn at h
  split at h
  ·rename_i e
   rcases List.mem_cons.1 hi with rfl | hi
   ·exact inL_mem e
   ·exact allIn_mem h i hi
  ·cases h
def noneIn (is:List Nat):List Nat→Bool
 | []=>true
 | j :: js=>match inL j is with
  | true=>false
  | false=>noneIn is js
theorem noneIn_mem {is:List Nat} : ∀ {js:List Nat},noneIn is js=true→∀ j ∈ js,j ∉ is
 | j :: js,h,i,hi=>by
  unfold noneIn at h
  split at h
  ·cases h
  ·rename_i e
   rcases List.mem_cons.1 hi with rfl | hi
   ·exact inL_not e
   ·exact noneIn_mem h i hi
def nodupB:List Nat→Bool
 | []=>true
 | j :: js=>match inL j js with
  | true=>false
  | false=>nodupB js
theorem nodupB_ok:∀ {js:List Nat},nodupB js=true→js.Nodup
 | [],_=>List.nodup_nil
 | j :: js,h=>by
  unfold nodupB at h
  split at h
  ·cases h
  ·rename_i e; exact List.nodup_cons.2 ⟨inL_not e,nodupB_ok h⟩
def posOf:List Nat→Nat→Nat
 | [],_=>0
 | j :: js,i=>match Nat.beq j i with
  | true=>0
  | false=>posOf js i+1
theorem posOf_get:∀ {is:List Nat} {i:Nat},i ∈ is→is[posOf is i]? = some i
 | j :: js,i,h=>by
  unfold posOf
  split
  ·rename_i e; have:=beq_true e; subst this; rfl
  ·rename_i e
   have:=beq_false e
   rcases List.mem_cons.1 h with h | h
   ·exact absurd h.symm this
   ·simpa using posOf_get h
theorem sgm_posOf {is:List Nat} {id i:Nat} (h:i ∈ is):sgm is id (posOf is i)=i:=by
 unfold sgm
 rw [List.getD_eq_getElem?_getD,posOf_get h]; rfl
def addNew (is:List Nat):List Nat→List Nat
 | []=>is
 | j :: js=>match inL j is with
  | true=>addNew is js
  | false=>addNew (is ++ [j]) js
def idsIn (H:Nat→Option SBlk):List Nat→List Nat
 | []=>[]
 | i :: is=>match H i with
  | some b=>b.ids ++ idsIn H is
  | none=>idsIn H is
def closeIds (H:Nat→Option SBlk):Nat→List Nat→List Nat
 | 0,is=>is
 | n+1,is=>closeIds H n (addNew is (idsIn H is))
def blocksOf (H:Nat→Option SBlk) (is:List Nat):List Nat→Option (List SBlk)
 | []=>some []
 | i :: js=>match H i with
  | some b=>match b.live && (allIn is b.ids && (b.ren (posOf is)).low is.length) with
   | true=>match blocksOf H is js with
    | some bs=>some (b.ren (posOf is) :: bs)
    | none=>none
   | false=>none
  | none=>none
theorem blocksOf_ok {H:Nat→Option SBlk} {is:List Nat} (id:Nat):∀ {js:List Nat} {bs:List SBlk},blocksOf H is js=some bs→js.length=bs.length∧∀ (j i:Nat) (b:SBlk),js[j]? = some i→bs[j]? = some b→H i=some (b.ren (sgm is id))∧b.live=true∧b.low is.length=true
 | [],bs,h=>by simp only [blocksOf,Option.some.injEq] at h; subst h; exact ⟨rfl,fun j i b e=>by simp at e⟩
 | i :: js,bs,h=>by
  unfold blocksOf at h
  split at h
  ·rename_i b hb
   split at h
   ·rename_i hc
    simp only [Bool.and_eq_true] at hc
    split at h
    ·rename_i cs hcs
     cases h
     obtain ⟨h1,h2⟩:=blocksOf_ok id hcs
     refine ⟨by simp [h1],fun j i' b' e e' => ?_⟩
     cases j with
     | zero =>
      simp at e e'
      subst e; subst e'
      have hback:=SBlk.ren_back (σ:=sgm is id) (τ:=posOf is) b (fun i hi=>sgm_posOf (allIn_mem hc.2.1 i hi))
      exact ⟨by rw [hback]; exact hb,by have:=hc.1; cases b <;> first | exact this | rfl,hc.2.2⟩
     | succ j=>exact h2 j i' b' (by simpa using e) (by simpa using e')
    ·cases h
   ·cases h
  ·cases h
def coeV1 (H:Nat→Option SBlk):SV→Option (List Prop × List Nat × SV)
 | .ptr i off=>some ([],[],.ptr i off)
 | .rptr i sz n j=>some ([],[],.rptr i sz n j)
 | x=>coe1 H x
def coeV2 (H:Nat→Option SBlk):SV→Option (List Prop × List Nat × SV)
 | .agg cs=>(coeRow (coeV1 H) cs).map fun q=>(q.1,q.2.1,.agg q.2.2)
 | .fn f xs cs =>
  match coeRow (coeV1 H) xs,coeRow (coeV1 H) cs with
  | some (ps,Z,ys),some (qs,Z',ds)=>some (ps ++ qs,Z ++ Z',.fn f ys ds)
  | _,_=>none
 | x=>coeV1 H x
def CoeOK2 (H:Nat→Option SBlk) (g:SV→Option (List Prop × List Nat × SV)):Prop:=∀ x ps Z y,g x=some (ps,Z,y)→AllP ps→Coe (denH H) Z x.den y.den∧∀ i ∈ Z,∃ k,H i=some k∧k.den.live=true
theorem coeV1_ok (H:Nat→Option SBlk):CoeOK2 H (coeV1 H):=by
 intro x ps Z y h hp
 unfold coeV1 at h
 split at h
 ·cases h; exact ⟨.refl,fun i hi=>by cases hi⟩
 ·cases h; exact ⟨.refl,fun i hi=>by cases hi⟩
 ·obtain ⟨h1,-,h3⟩:=coe1_ok H _ _ _ _ h hp
  exact ⟨h1,h3⟩
theorem coeRow_ok2 {H:Nat→Option SBlk} {g:SV→Option (List Prop × List Nat × SV)} (hg:CoeOK2 H g):∀ (xs:List SV) (ps:List Prop) (Z:List Nat) (ys:List SV),coeRow g xs=some (ps,Z,ys)→AllP ps →
  CoeL (denH H) Z (SV.denL xs) (SV.denL ys)∧∀ i ∈ Z,∃ k,H i=some k∧k.den.live=true:=by
 intro xs
 induction xs with
 | nil=>intro ps Z ys h _; simp only [coeRow,Option.some.injEq,Prod.mk.injEq] at h; obtain ⟨rfl,rfl,rfl⟩:=h; exact ⟨trivial,fun i hi=>by cases hi⟩
 | cons x xs ih =>
  intro ps Z ys h hp
  simp only [coeRow] at h
  split at h
  ·rename_i ps1 Z1 y h1
   split at h
   ·rename_i ps2 Z2 ys' h2
    cases h
    obtain ⟨hp1,hp2⟩:=AllP.app.1 hp
    obtain ⟨a1,a3⟩:=hg _ _ _ _ h1 hp1
    obtain ⟨b1,b3⟩:=ih _ _ _ h2 hp2
    refine ⟨⟨a1.wide (fun i hi=>by simp [hi]),b1.wide (fun i hi=>by simp [hi])⟩,fun i hi => ?_⟩
    rcases List.mem_append.1 hi with hi | hi
    ·exact a3 i hi
    ·exact b3 i hi
   ·cases h
  ·cases h
theorem coeV2_ok (H:Nat→Option SBlk):CoeOK2 H (coeV2 H):=by
 intro x ps Z y h hp
 unfold coeV2 at h
 split at h
 ·simp only [Option.map_eq_some_iff,Prod.mk.injEq] at h
  obtain ⟨⟨ps',Z',ys⟩,h1,rfl,rfl,rfl⟩:=h
  obtain ⟨a1,a3⟩:=coeRow_ok2 (coeV1_ok H) _ _ _ _ h1 hp
  obtain ⟨b1,b2⟩:=a1.get
  simp only [SV.den]
  exact ⟨.agg b1 b2,a3⟩
 ·split at h
  ·rename_i ps1 Z1 ys1 ps2 Z2 ys2 h1 h2
   cases h
   obtain ⟨hp1,hp2⟩:=AllP.app.1 hp
   obtain ⟨a1,a3⟩:=coeRow_ok2 (coeV1_ok H) _ _ _ _ h1 hp1
   obtain ⟨c1,c3⟩:=coeRow_ok2 (coeV1_ok H) _ _ _ _ h2 hp2
   obtain ⟨b1,b2⟩:=(CoeL.wide a1 (Z':=Z1 ++ Z2) (fun i hi=>by simp [hi])).get
   obtain ⟨d1,d2⟩:=(CoeL.wide c1 (Z':=Z1 ++ Z2) (fun i hi=>by simp [hi])).get
   simp only [SV.den]
   refine ⟨.fn b1 b2 d1 d2,fun i hi => ?_⟩
   rcases List.mem_append.1 hi with hi | hi
   ·exact a3 i hi
   ·exact c3 i hi
  ·cases h
 ·exact coeV1_ok H _ _ _ _ h hp
def pairsOf (is:List Nat) (id:Nat):Nat→List SBlk→List (Nat × SBlk)
 | _,[]=>[]
 | j,b :: bs=>(sgm is id j,b.ren (sgm is id)) :: pairsOf is id (j+1) bs
theorem pairsOf_den (is:List Nat) (id:Nat):∀ (j:Nat) (bs:List SBlk),((pairsOf is id j bs).map fun p=>(p.1,p.2.den))=(List.range bs.length).map fun k=>(sgm is id (j+k),((bs.map SBlk.den).getD k .dead).ren (sgm is id))
 | j,[]=>rfl
 | j,b :: bs=>by
  simp only [pairsOf,List.map_cons,List.length_cons,List.range_succ_eq_map,List.map_map,pairsOf_den is id (j+1) bs]
  refine List.cons_eq_cons.2 ⟨by simp [SBlk.ren_den],?_⟩
  refine List.map_congr_left fun k _ => ?_
  simp [Nat.add_assoc,Nat.add_comm 1 k]
abbrev EntB:=List SV→List SBlk→Option (List Prop × SV × List SBlk)
def SpecOK (P:Program) (f:FuncId) (g:EntB):Prop:=∀ xs Hs ps r Hs',g xs Hs=some (ps,r,Hs')→AllP ps→Spec P f (SV.denL xs) (Hs.map SBlk.den) r.den (Hs'.map SBlk.den)
def specB (g:EntB) (H:Nat→Option SBlk) (id:Nat) (ps:List Prop) (Z:List Nat) (ys:List SV) (is:List Nat):Option SOut :=
 match blocksOf H is is with
 | some bs =>
  match nodupB is && (allIn is (SV.idsL ys) && (noneIn Z is && SV.lowL is.length (SV.renL (posOf is) ys))) with
  | true =>
   match g (SV.renL (posOf is) ys) bs with
   | some (qs,r,bs') =>
    match Nat.ble bs'.length (is.length+8) with
    | true=>some { ps:=ps ++ qs,val:=r.ren (sgm is id),ri:=Z ++ is,wr:=(Z.map fun i=>(i,SBlk.dead)) ++ pairsOf is id 0 bs' }
    | false=>none
   | none=>none
  | false=>none
 | none=>none
def specE (g:EntB):Ent1:=fun xs H id =>
 match coeRow (coeV2 H) xs with
 | some (ps,Z,ys)=>specB g H id ps Z ys (closeIds H 4 (addNew [] (SV.idsL ys)))
 | none=>none
theorem specE_ok {P:Program} {f:FuncId} {g:EntB} (hg:SpecOK P f g):EntOK P f (specE g):=by
 intro xs H id out h hp
 unfold specE at h
 split at h
 ·rename_i ps Z ys h1
  generalize closeIds H 4 (addNew [] (SV.idsL ys))=is at h
  unfold specB at h
  split at h
  ·rename_i bs hbs
   split at h
   ·rename_i hc
    simp only [Bool.and_eq_true] at hc
    obtain ⟨c1,c2,c3,c4⟩:=hc
    split at h
    ·rename_i qs r bs' hr
     split at h
     ·rename_i hl
      cases h
      obtain ⟨hp1,hp2⟩:=AllP.app.1 hp
      obtain ⟨a1,a3⟩:=coeRow_ok2 (coeV2_ok H) _ _ _ _ h1 hp1
      obtain ⟨b1,b2⟩:=blocksOf_ok id hbs
      have hs:=hg _ _ _ _ _ hr hp2
      have hback:SV.denL ys=AV.renL (sgm is id) (SV.denL (SV.renL (posOf is) ys)):=by
       rw [← svRenL_den,renL_back ys (fun i hi=>sgm_posOf (allIn_mem c2 i hi))]
      rw [hback] at a1
      have key:=CallR.wr (H:=denH H) (id:=id) (is:=is) (Z:=Z) hs (by simp [b1]) (nodupB_ok c1) (fun j i k e e'=>by
       rw [List.getElem?_map,Option.map_eq_some_iff] at e'
       obtain ⟨b,e',rfl⟩:=e'
       obtain ⟨g1,g2,g3⟩:=b2 j i b e e'
       refine ⟨?_,by rw [SBlk.live_den]; exact g2,SBlk.low_den g3⟩
       rw [denH_some g1,SBlk.ren_den]) (lowL_den _ c4) (by simpa using Nat.le_of_ble_eq_true hl) a1 (fun i hi=>by
       obtain ⟨k,hk,hl⟩:=a3 i hi
       exact ⟨k.den,denH_some hk,hl⟩) (fun i hi=>noneIn_mem c3 i hi)
      simp only [SOut.den,List.map_append,List.map_map,pairsOf_den,ren_den]
      simp only [List.length_map,Nat.zero_add] at key ⊢
      exact key
     ·cases h
    ·cases h
   ·cases h
  ·cases h
 ·cases h
inductive SBLe:List SBlk→List SBlk→Prop
 | nil:SBLe [] []
 | same {b:SBlk} {bs cs:List SBlk} (h:SBLe bs cs):SBLe (b :: bs) (b :: cs)
 | cells {xs ys:List SV} {bs cs:List SBlk} (h:SLeL xs ys) (hs:SBLe bs cs):SBLe (.cells xs :: bs) (.cells ys :: cs)
 | row {n m:Nat} {f g:Nat→List SV} {bs cs:List SBlk} (h:Row n m f) (e:∀ k,g k=rowI f k n 0) (hs:SBLe bs cs):SBLe (.row n m f :: bs) (.row n m g :: cs)
theorem SBLe.to {bs cs:List SBlk} (h:SBLe bs cs):HLe ((bs.map SBlk.den)[·]?) ((cs.map SBlk.den)[·]?)∧bs.length=cs.length:=by
 induction h with
 | nil=>exact ⟨fun i=>.inl ⟨by simp,by simp⟩,rfl⟩
 | same h ih =>
  refine ⟨fun i => ?_,by simp [ih.2]⟩
  cases i with
  | zero=>exact .inr ⟨_,_,rfl,rfl,.refl _⟩
  | succ i=>simpa using ih.1 i
 | cells h hs ih =>
  refine ⟨fun i => ?_,by simp [ih.2]⟩
  cases i with
  | zero=>exact .inr ⟨_,_,rfl,rfl,by simp only [SBlk.den]; exact Blk.le.cells h.to⟩
  | succ i=>simpa using ih.1 i
 | row h e hs ih =>
  refine ⟨fun i => ?_,by simp [ih.2]⟩
  cases i with
  | zero=>exact .inr ⟨_,_,rfl,rfl,by simp only [SBlk.den]; exact Blk.le.row (rows_le fun k hk=>by rw [e]; exact leRow_ok le0_ok _ _ (h k hk))⟩
  | succ i=>simpa using ih.1 i
theorem Spec.blocks {P:Program} {f:FuncId} {xs:List AV} {Hs Ks:List SBlk} {Hs':List Blk} {r:AV} (hs:Spec P f xs (Ks.map SBlk.den) r Hs') (h:SBLe Hs Ks):Spec P f xs (Hs.map SBlk.den) r Hs':=by
 obtain ⟨h1,h2⟩:=h.to
 refine ⟨hs.1,by have:=hs.2.1; simp at this ⊢; omega,fun ρ0 S w vs hm hr=>hs.2.2 ρ0 S w vs ((hm.le h1).less fun i hi => ?_) hr⟩
 simp at hi ⊢; omega
abbrev VB (ck:Bool) (E:Eqs) (O:Orc) (f:Func) (L:List Nat) (LO:Loops) (xs:List SV) (Hs:List SBlk) (r:SV) (Hs':List SBlk):Prop :=
 vcS PP E O ck YS.none f.ntmps L LO (bodyOf f) (retS PP f.results.toList r Hs') (argsS 0 xs) (idxB 0 Hs) ⟨Hs.length,0,false⟩
theorem enterB {E:Eqs} (hE:EqsOK PP E) {O:Orc} (hO:OrcOK PP O) {ck:Bool} {L:List Nat} {LO:Loops} {k:FuncId} {f:Func} {xs:List SV} {Hs Hs':List SBlk} {r:SV} (hf:PP.funcs[k]? = some f) (hn:isFn f xs.length=true) (hl:Hs'.length=Hs.length)
  (hL:∀ Y:YEnv PP YS.none,LoopsOK Y Fence.wide f.ntmps Hs.length LO (bodyOf f)) (h:Hold (VB ck E O f L LO xs Hs r Hs')):Spec PP k (SV.denL xs) (Hs.map SBlk.den) r.den (Hs'.map SBlk.den):=by
 obtain ⟨h1,h2,h3⟩:=isFn_inv hn
 exact Spec.enterS hE hO hmix ck L LO hf h1 h2 h3 hl hL h.out
end Go.Proofs.Ytoncoofmijjgeaa.Sep
namespace Go.Proofs.Ytoncoofmijjgeaa.Sep
open Go
def retN (P:Program) (N m:Nat) (rs:List ResultVar) (r:SV) (Hs':List SBlk):SPost:=fun e A H _ =>
 match e with
 | .normal | .ret =>
  match resS P A H rs with
  | some (ps,vs)=>allP ps (fit N m ((0,packS vs) :: A) H [(0,r)] (idxB 0 Hs') Hs'.length)
  | none=>False
 | _=>False
theorem retN_ok {P:Program} {N m:Nat} {rs:List ResultVar} {r:SV} {Hs':List SBlk} {e:Exit} {A:SSlots} {H:SBlks} {nx:Cnt} (h:retN P N m rs r Hs' e A H nx) :
  (e = .normal∨e = .ret) ∧ ∃ q vs,resVC P (denA A) (denB H) rs=some q∧q.1∧(packR q.2).le (packS vs).den∧fit N m ((0,packS vs) :: A) H [(0,r)] (idxB 0 Hs') Hs'.length:=by
 unfold retN at h
 have key:(match resS P A H rs with
  | some (ps,vs)=>allP ps (fit N m ((0,packS vs) :: A) H [(0,r)] (idxB 0 Hs') Hs'.length)
  | none=>False) → ∃ q vs,resVC P (denA A) (denB H) rs=some q∧q.1∧(packR q.2).le (packS vs).den∧fit N m ((0,packS vs) :: A) H [(0,r)] (idxB 0 Hs') Hs'.length:=by
  intro h
  split at h
  ·rename_i ps vs hr
   obtain ⟨h1,h2⟩:=allP_iff.1 h
   obtain ⟨q,g1,g2,g3⟩:=resS_ok hr h1
   exact ⟨q,vs,g1,g2,packS_den g3,h2⟩
  ·exact h.elim
 split at h
 ·exact ⟨.inl rfl,key h⟩
 ·exact ⟨.inr rfl,key h⟩
 ·exact h.elim
theorem Spec.enterN {P:Program} {E:Eqs} (hE:EqsOK P E) {O:Orc} (hO:OrcOK P O) (hmix:P.follows .mixedOrders=true) (ck:Bool) (L:List Nat) (LO:Loops) {f:FuncId} {fn:Func} {code:Code} {xs:List SV} {Hs Hs':List SBlk} {r:SV}
  (hf : P.funcs[f]? = some fn) (hn : (fn.name == "runtime.NumGoroutine") = false) (hb : fn.body = some code) (hxs : xs.length ≤ fn.ntmps) (hlen : Hs.length ≤ Hs'.length) (hL : ∀ Y : YEnv P YS.none, LoopsOK Y Fence.wide fn.ntmps Hs.length LO code)
  (h:vcS P E O ck YS.none fn.ntmps L LO code (retN P fn.ntmps Hs.length fn.results.toList r Hs') (argsS 0 xs) (idxB 0 Hs) ⟨Hs.length,0,false⟩):Spec P f (SV.denL xs) (Hs.map SBlk.den) r.den (Hs'.map SBlk.den):=by
 refine ⟨Ent.of hf hn (by rw [hb]; rfl),by simpa using hlen,fun ρ0 S w vs hmem hargs => ?_⟩
 refine callsIn_wide.1 (callsIn_of_wp_marks (F:=Fence.wide) (n:=0) hf hb trivial ?_)
 have hsz:vs.size=xs.length:=by rw [hargs.1,denL_length]
 have hrep:Rep (Ctx.of w ρ0 S) fn.ntmps ρ0 S (getA (denA (argsS 0 xs))) (getH (denB (idxB 0 Hs))) (fun i=>Hs.length≤i) { tmps:=vs ++ Array.replicate (fn.ntmps-vs.size) undef,defers:=[] } w:=by
  rw [denA_argsS,denB_idxB]
  refine ⟨?_,by simp [hsz]; omega,fun t v e => ?_,⟨[],rfl,List.nodup_nil,fun n hn=>by cases hn⟩,fun _ e=>e⟩
  ·have:getH (idxH 0 (Hs.map SBlk.den))=((Hs.map SBlk.den)[·]?):=by funext i; rw [getH_idxH]; simp
   rw [this]
   simpa using hmem
  ·rw [getA_argsA]
   simp only [Nat.zero_le,if_true,Nat.sub_zero]
   rcases Nat.lt_or_ge t (SV.denL xs).length with hlt | hge
   ·rw [Array.getElem?_append_left (by rw [hargs.1]; exact hlt)] at e
    exact hargs.2 t _ v (by simp [List.getD,hlt]) e
   ·rw [show (SV.denL xs).getD t .top = .top by simp [List.getD,List.getElem?_eq_none hge]]; exact .top _
 have hw:=vcS_sound hE hO FOK.wide hmix (Y:=YEnv.triv P (Ctx.of w ρ0 S)) code (hL _) _ _ _ _ h
 have hG:(YEnv.triv P (Ctx.of w ρ0 S)).G 0 false (Ctx.of w ρ0 S):=⟨Nat.le_refl _,fun _ _ e=>e,fun _ _ _=>rfl,fun _ _ _ _ _ e=>e,fun _ e=>e,hmem.sin,fun _ e=>.inl e,fun _ e=>e,fun _ e=>.inl e,fun _ e=>e⟩
 have h0:∀ i,Hs.length≤i→(Ctx.of w ρ0 S).ρ0 i=none:=fun i hi=>(hmem.free i (by simpa using hi)).2
 refine wpIn_mono (hw _ ρ0 S _ w h0 hG hrep (fun t ht => ?_)) ?_
 ·rw [denA_argsS,getA_argsA]
  simp only [Nat.zero_le,if_true,Nat.sub_zero]
  simp [List.getD,List.getElem?_eq_none (show (SV.denL xs).length≤t by rw [denL_length]; omega)]
 ·rintro e a' w' ⟨C',ρ',S',A',H',nx',hC,hg',hr1,ht',SA,SH,rfl,rfl,hret⟩
  have hg':(Ctx.of w ρ0 S).Re C':=hg'
  have hr':Rep (Ctx.of w ρ0 S) fn.ntmps ρ' S' (getA (denA SA)) (getH (denB SH)) (fun i=>nx'.n≤i) a' w':=by
   refine ⟨hr1.mem.back hg' (by rw [hC.ρ0]; exact Names.le.refl _) (fun _ e=>e),hr1.size,hr1.slots,?_,fun n e=>hr1.dk n (hC.dk n e)⟩
   obtain ⟨ns,g1,g2,g3⟩:=hr1.marks
   refine ⟨ns,g1,g2,fun n hn=>⟨?_,(g3 n hn).2⟩⟩
   rcases (g3 n hn).1 with h1 | h1
   ·exact (hg'.x1 n (hg'.ox n h1)).imp id (·.1)
   ·exact .inr (Nat.le_trans hg'.size h1)
  obtain ⟨he,q,us,hq,hqc,hle,hfit⟩:=retN_ok hret
  have hend:LeavesInM Fence.wide 0 P fn a'.tmps (fun e w'' => ∃ v,e = .returned v ∧ ∃ ρ'' S'',Mem (Ctx.of w ρ0 S) ρ'' S'' ((Hs'.map SBlk.den)[·]?) (fun i=>(Hs'.map SBlk.den).length≤i) w''∧Rel S'' w'' ρ'' r.den v) a'.defers .returning w':=by
   obtain ⟨ns,hds,hnd,hns⟩:=hr'.marks
   rw [hds]
   refine leaves_marks (C:=(Ctx.of w ρ0 S)) (fun w''=>Mem (Ctx.of w ρ0 S) ρ' S' (getH (denB SH)) (fun i=>nx'.n≤i) w''∧∀ t v,a'.tmps[t]? = some v→Rel S' w'' ρ' (getA (denA SA) t) v) (fun w'' hq'' => ?_) (fun w1 n hr1 h1 h2 => ?_) ns w' hnd hns ⟨hr'.mem,hr'.slots⟩
   ·have hr'':Rep ((Ctx.of w ρ0 S).again w'' S') fn.ntmps ρ' S' (getA (denA SA)) (getH (denB SH)) (fun i=>nx'.n≤i) ⟨a'.tmps,[]⟩ w'':=⟨hq''.1.again,hr'.size,hq''.2,⟨[],rfl,List.nodup_nil,fun n hn=>by cases hn⟩,fun _ e=>e⟩
    obtain ⟨v,hres,hrel⟩:=run_results (fn:=fn) hr'' ht' hq hqc
    obtain ⟨ρ'',f1,f2,-⟩:=fitM_ok h0 hq''.1 hfit
    have hv:=f2 0 v (by
     have:getA (denA ((0,packS us) :: SA)) 0=(packS us).den:=by simp [denA,getA]
     rw [this]; exact hle _ _ _ _ hrel)
    have e0:getA (denA [(0,r)]) 0=r.den:=by simp [denA,getA]
    rw [e0] at hv
    refine ⟨v,hres,v,rfl,ρ'',S',?_,hv⟩
    rw [denB_idxB] at f1
    have:getH (idxH 0 (Hs'.map SBlk.den))=((Hs'.map SBlk.den)[·]?):=by funext i; rw [getH_idxH]; simp
    rw [this] at f1
    simpa using f1
   ·obtain ⟨hm2,hk2⟩:=hr1.1.turn (w':=w1.putObj n (.deferred none)) (n:=n) h1 (fun vs T fz e=>by rw [h2] at e; cases e) (by simp [World.putObj]) (fun c hc=>World.putObj_heap_other hc) ⟨rfl,rfl⟩
    exact ⟨hm2,fun t v e=>(hr1.2 t v e).mono hk2 (fun _ e=>e) (Names.le.refl _)⟩
  rcases he with rfl | rfl
  ·exact hend
  ·exact hend
abbrev VN (ck:Bool) (E:Eqs) (O:Orc) (f:Func) (L:List Nat) (LO:Loops) (xs:List SV) (Hs:List SBlk) (r:SV) (Hs':List SBlk):Prop :=
 vcS PP E O ck YS.none f.ntmps L LO (bodyOf f) (retN PP f.ntmps Hs.length f.results.toList r Hs') (argsS 0 xs) (idxB 0 Hs) ⟨Hs.length,0,false⟩
theorem enterN {E:Eqs} (hE:EqsOK PP E) {O:Orc} (hO:OrcOK PP O) {ck:Bool} {L:List Nat} {LO:Loops} {k:FuncId} {f:Func} {xs:List SV} {Hs Hs':List SBlk} {r:SV} (hf:PP.funcs[k]? = some f) (hn:isFn f xs.length=true) (hl:Nat.ble Hs.length Hs'.length=true)
  (hL:∀ Y:YEnv PP YS.none,LoopsOK Y Fence.wide f.ntmps Hs.length LO (bodyOf f)) (h:Hold (VN ck E O f L LO xs Hs r Hs')):Spec PP k (SV.denL xs) (Hs.map SBlk.den) r.den (Hs'.map SBlk.den):=by
 obtain ⟨h1,h2,h3⟩:=isFn_inv hn
 exact Spec.enterN hE hO hmix ck L LO hf h1 h2 h3 (Nat.le_of_ble_eq_true hl) hL h.out
theorem enterH {E:Eqs} {O:Orc} {ck:Bool} {L:List Nat} {LO:Loops} {k:FuncId} {f:Func} {xs:List SV} {r:SV} (h:Hold (V ck E O f L LO xs r)) (hE:EqsOK PP E) (hO:OrcOK PP O) (hf:PP.funcs[k]? = some f) (hn:isFn f xs.length=true)
  (hL:∀ Y:YEnv PP YS.none,LoopsOK Y Fence.wide f.ntmps 0 LO (bodyOf f)):Pure PP k (SV.denL xs) r.den:=enter hE hO hf hn hL h
theorem enterBH {E:Eqs} {O:Orc} {ck:Bool} {L:List Nat} {LO:Loops} {k:FuncId} {f:Func} {xs:List SV} {Hs Hs':List SBlk} {r:SV} (h:Hold (VB ck E O f L LO xs Hs r Hs')) (hE:EqsOK PP E) (hO:OrcOK PP O) (hf:PP.funcs[k]? = some f) (hn:isFn f xs.length=true) (hl:Hs'.length=Hs.length)
  (hL:∀ Y:YEnv PP YS.none,LoopsOK Y Fence.wide f.ntmps Hs.length LO (bodyOf f)):Spec PP k (SV.denL xs) (Hs.map SBlk.den) r.den (Hs'.map SBlk.den):=enterB hE hO hf hn hl hL h
theorem enterNH {E:Eqs} {O:Orc} {ck:Bool} {L:List Nat} {LO:Loops} {k:FuncId} {f:Func} {xs:List SV} {Hs Hs':List SBlk} {r:SV} (h:Hold (VN ck E O f L LO xs Hs r Hs')) (hE:EqsOK PP E) (hO:OrcOK PP O) (hf:PP.funcs[k]? = some f) (hn:isFn f xs.length=true) (hl:Nat.ble Hs.length Hs'.length=true)
  (hL:∀ Y:YEnv PP YS.none,LoopsOK Y Fence.wide f.ntmps Hs.length LO (bodyOf f)):Spec PP k (SV.denL xs) (Hs.map SBlk.den) r.den (Hs'.map SBlk.den):=enterN hE hO hf hn hl hL h
end Go.Proofs.Ytoncoofmijjgeaa.Sep
namespace Go.Proofs.Ytoncoofmijjgeaa.Sep
open Go
set_option linter.unusedVariables false
set_option linter.unusedSimpArgs false
def pr2 (g:Nat→List SV):Nat→Int × Int:=fun k=>(cI g 0 k,cI g 1 k)
def coeW1 (H:Nat→Option SBlk):SV→Option (List Prop × List Nat × SV)
 | .ptr i off=>some ([],[],.ptr i off)
 | .rptr i sz n j=>some ([],[],.rptr i sz n j)
 | .vec i sz lo len=>some ([],[],.vec i sz lo len)
 | x=>coe1 H x
def coeW2 (H:Nat→Option SBlk):SV→Option (List Prop × List Nat × SV)
 | .agg cs=>(coeRow (coeW1 H) cs).map fun q=>(q.1,q.2.1,.agg q.2.2)
 | .fn f xs cs =>
  match coeRow (coeW1 H) xs,coeRow (coeW1 H) cs with
  | some (ps,Z,ys),some (qs,Z',ds)=>some (ps ++ qs,Z ++ Z',.fn f ys ds)
  | _,_=>none
 | x=>coeW1 H x
theorem coeW1_ok (H:Nat→Option SBlk):CoeOK2 H (coeW1 H):=by
 intro x ps Z y h hp
 unfold coeW1 at h
 split at h
 ·cases h; exact ⟨.refl,fun i hi=>by cases hi⟩
 ·cases h; exact ⟨.refl,fun i hi=>by cases hi⟩
 ·cases h; exact ⟨.refl,fun i hi=>by cases hi⟩
 ·obtain ⟨h1,-,h3⟩:=coe1_ok H _ _ _ _ h hp
  exact ⟨h1,h3⟩
theorem coeW2_ok (H:Nat→Option SBlk):CoeOK2 H (coeW2 H):=by
 intro x ps Z y h hp
 unfold coeW2 at h
 split at h
 ·simp only [Option.map_eq_some_iff,Prod.mk.injEq] at h
  obtain ⟨⟨ps',Z',ys⟩,h1,rfl,rfl,rfl⟩:=h
  obtain ⟨a1,a3⟩:=coeRow_ok2 (coeW1_ok H) _ _ _ _ h1 hp
  obtain ⟨b1,b2⟩:=a1.get
  simp only [SV.den]
  exact ⟨.agg b1 b2,a3⟩
 ·split at h
  ·rename_i ps1 Z1 ys1 ps2 Z2 ys2 h1 h2
   cases h
   obtain ⟨hp1,hp2⟩:=AllP.app.1 hp
   obtain ⟨a1,a3⟩:=coeRow_ok2 (coeW1_ok H) _ _ _ _ h1 hp1
   obtain ⟨c1,c3⟩:=coeRow_ok2 (coeW1_ok H) _ _ _ _ h2 hp2
   obtain ⟨b1,b2⟩:=(CoeL.wide a1 (Z':=Z1 ++ Z2) (fun i hi=>by simp [hi])).get
   obtain ⟨d1,d2⟩:=(CoeL.wide c1 (Z':=Z1 ++ Z2) (fun i hi=>by simp [hi])).get
   simp only [SV.den]
   refine ⟨.fn b1 b2 d1 d2,fun i hi => ?_⟩
   rcases List.mem_append.1 hi with hi | hi
   ·exact a3 i hi
   ·exact c3 i hi
  ·cases h
 ·exact coeW1_ok H _ _ _ _ h hp
def specW (g:EntB):Ent1:=fun xs H id =>
 match coeRow (coeW2 H) xs with
 | some (ps,Z,ys)=>specB g H id ps Z ys (closeIds H 4 (addNew [] (SV.idsL ys)))
 | none=>none
theorem specW_ok {P:Program} {f:FuncId} {g:EntB} (hg:SpecOK P f g):EntOK P f (specW g):=by
 intro xs H id out h hp
 unfold specW at h
 split at h
 ·rename_i ps Z ys h1
  generalize closeIds H 4 (addNew [] (SV.idsL ys))=is at h
  unfold specB at h
  split at h
  ·rename_i bs hbs
   split at h
   ·rename_i hc
    simp only [Bool.and_eq_true] at hc
    obtain ⟨c1,c2,c3,c4⟩:=hc
    split at h
    ·rename_i qs r bs' hr
     split at h
     ·rename_i hl
      cases h
      obtain ⟨hp1,hp2⟩:=AllP.app.1 hp
      obtain ⟨a1,a3⟩:=coeRow_ok2 (coeW2_ok H) _ _ _ _ h1 hp1
      obtain ⟨b1,b2⟩:=blocksOf_ok id hbs
      have hs:=hg _ _ _ _ _ hr hp2
      have hback:SV.denL ys=AV.renL (sgm is id) (SV.denL (SV.renL (posOf is) ys)):=by
       rw [← svRenL_den,renL_back ys (fun i hi=>sgm_posOf (allIn_mem c2 i hi))]
      rw [hback] at a1
      have key:=CallR.wr (H:=denH H) (id:=id) (is:=is) (Z:=Z) hs (by simp [b1]) (nodupB_ok c1) (fun j i k e e'=>by
       rw [List.getElem?_map,Option.map_eq_some_iff] at e'
       obtain ⟨b,e',rfl⟩:=e'
       obtain ⟨g1,g2,g3⟩:=b2 j i b e e'
       refine ⟨?_,by rw [SBlk.live_den]; exact g2,SBlk.low_den g3⟩
       rw [denH_some g1,SBlk.ren_den]) (lowL_den _ c4) (by simpa using Nat.le_of_ble_eq_true hl) a1 (fun i hi=>by
       obtain ⟨k,hk,hl⟩:=a3 i hi
       exact ⟨k.den,denH_some hk,hl⟩) (fun i hi=>noneIn_mem c3 i hi)
      simp only [SOut.den,List.map_append,List.map_map,pairsOf_den,ren_den]
      simp only [List.length_map,Nat.zero_add] at key ⊢
      exact key
     ·cases h
    ·cases h
   ·cases h
  ·cases h
 ·cases h
def rwB (H:SBlks) (i:Nat):Nat→List SV:=match getB H i with
 | some (.row _ _ f)=>f
 | _=>fun _=>[]
end Go.Proofs.Ytoncoofmijjgeaa.Sep
namespace Go.Proofs.Ytoncoofmijjgeaa.Sep
open Go
set_option linter.unusedVariables false
end Go.Proofs.Ytoncoofmijjgeaa.Sep
namespace Go.Proofs.Ytoncoofmijjgeaa.Sep
open Go
def alt1 (e e':Ent1):Ent1:=fun xs H id =>
 match e xs H id with
 | some out=>some out
 | none=>e' xs H id
theorem alt1_ok {P:Program} {f:FuncId} {e e':Ent1} (h:EntOK P f e) (h':EntOK P f e'):EntOK P f (alt1 e e'):=fun xs H id out hx hp=>by
 unfold alt1 at hx
 split at hx
 ·rename_i o ho
  cases hx
  exact h _ _ _ _ ho hp
 ·exact h' _ _ _ _ hx hp
end Go.Proofs.Ytoncoofmijjgeaa.Sep
