/-
  Texts of one seat, joined. No condition. (This text proves no statement by itself.)
-/
import Derived.Test.YtoncoofmijjgeaaKSep21
import Derived.Test.YtoncoofmijjgeaaChecked
import Derived.ProofKit
import Derived.HandedShaped
import Derived.Deep.SlicePairs
import Derived.OpenShut
namespace Go.Proofs.Ytoncoofmijjgeaa.Sep
open Go Go.ChangeShapes Go.WideShapes Go.ChangeAt Go.RowKit
set_option linter.unusedVariables false
set_option linter.unusedSimpArgs false
structure Stays (W W':World):Prop where
 os:W'.os=W.os
 output:W'.output=W.output
 size:W.heap.size≤W'.heap.size
 block:∀ k,k<W.heap.size→W'.heap[k]? = W.heap[k]?
abbrev oldS (W:World):Nat→Prop:=fun b=>b<W.heap.size
theorem calls_true {f:FuncId} {xs:List SV} {W:World} {vs:Array Value} (hp:Pure PP f (SV.denL xs) (SV.bool true).den) (hr:RelCs (oldS W) W noNames (SV.denL xs) vs) :
  Calls PP f vs W fun e W'=>e = .returned (.bool true)∧Stays W W':=by
 have hmem:Mem (Ctx.of W noNames (oldS W)) noNames (oldS W) (([]:List Blk)[·]?) (fun i=>([]:List Blk).length≤i) W :=
  ⟨Nat.le_refl _,fun _ _ e=>e,fun _ _ _=>rfl,Names.le.refl _,fun _ e=>e,fun _ e=>.inl e,fun b hb=>hb,fun i b e=>(by cases e),fun i k b e=>(by simp at e),fun i j k l b e=>(by simp at e),fun i k e=>(by simp at e),fun i _=>⟨by simp,rfl⟩,fun _ _ _ _ _ e=>e⟩
 refine (hp.2.2 noNames (oldS W) W vs hmem hr).mono ?_
 rintro e W' ⟨v,rfl,ρ',S',hm,hv⟩
 obtain rfl:=hv.lit_inv
 have hio:=shp_io hm.shape
 exact ⟨rfl,hio.1,hio.2,hm.size,fun k hk=>hm.old k hk (fun ⟨j,h⟩=>by cases h)⟩
section
variable {H : Type} {enc : TypeId × Value → H} {P : Program}
theorem Stays.kept {W W':World} (h:Stays W W') (may:MemPlace→Prop):W.keptBut W' may:=by
 refine ⟨h.os,h.output,fun i hi => ?_⟩
 rw [h.block i hi]
 cases W.heap[i]? with
 | none=>rfl
 | some o=>cases o <;> first | exact ⟨rfl,rfl,rfl,fun _ _=>rfl⟩ | exact .inr ⟨rfl,rfl⟩ | rfl
theorem Stays.same {W W':World} (h:Stays W W') {p:MemPlace} (hp:p.block<W.heap.size):W.sameAt W' p:=by
 cases p with
 | cell b off=>exact World.cell?_of_block (w:=W) (h.block b hp)
 | map b=>exact h.block b hp
theorem Stays.frozen {W W':World} (h:Stays W W') {a:Addr} (hp:a.block<W.heap.size):W'.frozen? a=W.frozen? a:=World.frozen?_of_block (w:=W) (h.block a.block hp)
def readTs (P:Program) (ts:List TypeId):Bool:=ts.all fun t=>P.readableRec t && decide (t<P.types.size)
theorem Stays.trodAll (hl:laidOutB P=true) {W W':World} (hb:Stays W W') {sp':Nat→Bool} : ∀ {ts:List TypeId} {vs:List Value} {ds:List (DataW H)} {ps:List MemPlace},readTs P ts=true→(∀ p ∈ ps,p.block<W.heap.size)→(∀ p ∈ ps,sp' p.block=true) →
  DataW.TrodAll enc P W 0 (fun _=>true) true ts vs ds ps→DataW.TrodAll enc P W' 0 sp' true ts vs ds ps
 | [],[],[],_,_,_,_,h=>h
 | [],[],_ :: _,_,_,_,_,h=>h.elim
 | [],_ :: _,[],_,_,_,_,h=>h.elim
 | [],_ :: _,_ :: _,_,_,_,_,h=>h.elim
 | _ :: _,[],_,_,_,_,_,h=>h.elim
 | _ :: _,_ :: _,[],_,_,_,_,h=>h.elim
 | t :: ts,v :: vs,d :: ds,ps,hr,hlt,hs,h=>by
  obtain ⟨p,q,h1,h2,rfl⟩:=h
  simp only [readTs,List.all_cons,Bool.and_eq_true,decide_eq_true_eq] at hr
  refine ⟨p,q,WideElems.Trod_stays hl hr.1.1 hr.1.2 h1 (fun x hx=>hb.same (hlt x (by simp [hx]))) (fun x hx=>hs x (by simp [hx])),?_,rfl⟩
  exact Stays.trodAll hl hb (by simpa [readTs] using hr.2) (fun x hx=>hlt x (by simp [hx])) (fun x hx=>hs x (by simp [hx])) h2
theorem post_true (hl:laidOutB P=true) {f:Func} {s:ChangeSpec} {apart fresh handsOn again:Bool} {W W':World} {args:Array Value} {ds gs:List (DataW H)} {before:List MemPlace} {tb:TypeId}
  (hv:s.vars=[]) (hts:readTs P f.params.toList=true) (hrt:f.resultTypes = #[tb]) (htb:P.underlying tb=some .bool) (hfn:s.fn H (ds ++ gs) = { results:=[.lit (.bool true)],args:=ds })
  (hW:DataW.Whole enc P f.params.toList s.vars apart W args.toList ds gs before) (hb:Stays W W') :
  s.post enc P f apart fresh handsOn again W args (.bool true) W':=by
 have hlt:=hW.lt
 have hold:∀ p ∈ before,(fun b=>decide (b<W.heap.size)) p.block=true:=fun p hp=>by simpa using hlt p hp
 have hW':=hW
 obtain ⟨pa,pv,hA,hV,hps,hz,hn⟩:=hW'
 have hpv:gs=[]∧pv=[]:=by rw [hv] at hV; exact trodVars_none hV
 obtain ⟨rfl,rfl⟩:=hpv
 simp only [List.append_nil] at hps
 subst hps
 have hres:∀ (b:Nat) (sp:Nat→Bool) (hd:Bool),DataW.TrodAll enc P W' b sp hd f.resultTypes.toList ((Value.bool true).resultList f.resultTypes.size) (s.fn H (ds ++ [])).results []:=fun b sp hd=>by
  rw [hfn,hrt]
  exact trodAll_mk1 (shut_bool htb true)
 have hargs:∀ sp:Nat→Bool,(∀ p ∈ before,sp p.block=true)→DataW.TrodAll enc P W' 0 sp true f.params.toList args.toList (s.fn H (ds ++ [])).args before:=fun sp hsp=>by
  rw [hfn]
  exact Stays.trodAll hl hb hts hlt hsp hA
 have hvars:∀ sp:Nat→Bool,DataW.TrodVars enc P W' sp s.vars (s.fn H (ds ++ [])).vars []:=fun sp=>by
  rw [hfn,hv]; rfl
 refine ⟨ds,[],before,[],before,[],hW,hres _ _ _,hargs _ hold,hvars _,World.keptBut_mono (fun p hp=>⟨hp,?_⟩) (hb.kept (· ∈ before)),fun _ => ?_⟩
 ·exact Or.inr (.inl hp)
 ·refine ⟨ok_one hrt rfl (okWide_bool_mk htb true),_,_,([] ++ before) ++ [],⟨[] ++ before,[],trodAll_append (hargs _ (fun _ _=>rfl)) (hres _ _ _),hvars _,rfl,?_,?_⟩,?_⟩
  ·intro b off hp
   have hp:MemPlace.cell b off ∈ before:=by simpa using hp
   rw [hb.frozen (a:=⟨b,off,none⟩) (hlt _ hp)]
   exact hz b off hp
  ·intro ha
   simpa using hn ha
  ·intro p hp _
   simpa using hp
end
end Go.Proofs.Ytoncoofmijjgeaa.Sep
namespace Go.Proofs.Ytoncoofmijjgeaa.Sep
open Go Go.ChangeShapes Go.WideShapes Go.ChangeAt Go.RowKit
set_option linter.unusedVariables false
set_option linter.unusedSimpArgs false
theorem laidOut:laidOutB Try.prog=true:=by kernel_rfl
theorem own:ownKnob Try.prog.godebug=none:=by kernel_rfl
section
variable {H : Type} {enc : TypeId × Value → H} {P : Program} {W : World} {sp : Nat → Bool} {r : Reach}
end
theorem relCs_nil {S:Nat→Prop} {w:World} {ρ:Names} : RelCs S w ρ [] #[]:=⟨rfl,fun k c v h=>by simp at h⟩
theorem relCs_cons {S:Nat→Prop} {w:World} {ρ:Names} {a:AV} {xs:List AV} {v:Value} {vs:List Value} (h:Rel S w ρ a v) (hs:RelCs S w ρ xs vs.toArray):RelCs S w ρ (a :: xs) (v :: vs).toArray:=by
 refine ⟨by simpa using hs.1,fun k c u h1 h2 => ?_⟩
 cases k with
 | zero=>simp at h1 h2; subst h1; subst h2; exact h
 | succ k=>exact hs.2 k c u (by simpa using h1) (by simpa using h2)
end Go.Proofs.Ytoncoofmijjgeaa.Sep
namespace Go.Proofs.Ytoncoofmijjgeaa.Sep
open Go Go.ChangeShapes Go.WideShapes Go.ChangeAt Go.RowKit
set_option linter.unusedVariables false
set_option linter.unusedSimpArgs false
inductive Sh where
 | int (k:IntKind)
 | bool
 | sl (cs:List Sh)
def shFs (P:Program) (g:TypeId→Option (List Sh)):List Field→Nat→Option (List Sh)
 | [],_=>some []
 | f :: fs,o =>
  match g f.type with
  | some cs=>if f.offset=o∧cs.length=P.cellsOf f.type then
    match shFs P g fs (o+cs.length) with
    | some ds=>some (cs ++ ds)
    | none=>none
   else none
  | none=>none
def rep:Nat→List Sh→List Sh
 | 0,_=>[]
 | n+1,cs=>cs ++ rep n cs
def shF (P:Program):Nat→TypeId→Option (List Sh)
 | 0,_=>none
 | d+1,t =>
  match P.underlying t with
  | some (.int k)=>some [.int k]
  | some .bool=>some [.bool]
  | some (.slice e) =>
   match shF P d e with
   | some cs=>if cs.length=P.cellsOf e∧0<cs.length then some [.sl cs] else none
   | none=>none
  | some (.struct fs) =>
   match shFs P (shF P d) fs.toList 0 with
   | some cs=>if cs.length=P.cellsOf t then some cs else none
   | none=>none
  | some (.array n e) =>
   match shF P d e with
   | some cs=>if n*cs.length=P.cellsOf t∧cs.length=P.cellsOf e then some (rep n cs) else none
   | none=>none
  | _=>none
mutual
def Fits:Sh→SV→Prop
 | .int k,v => ∃ n,v = .int k n∧(Lit.int k n).wf=true
 | .bool,v => ∃ b,v = .bool b
 | .sl cs,v => ∃ m f,v = .sl cs.length m f∧m≤Go.maxLen∧∀ i,i<m→FitsL cs (f i)
def FitsL:List Sh→List SV→Prop
 | [],[]=>True
 | c :: cs,x :: xs=>Fits c x∧FitsL cs xs
 | _,_=>False
end
theorem FitsL.len:∀ {cs:List Sh} {xs:List SV},FitsL cs xs→xs.length=cs.length
 | [],[],_=>rfl
 | c :: cs,x :: xs,h=>by simp [FitsL.len (by simp only [FitsL] at h; exact h.2)]
 | [],_ :: _,h=>by simp [FitsL] at h
 | _ :: _,[],h=>by simp [FitsL] at h
theorem FitsL.app:∀ {cs ds:List Sh} {xs ys:List SV},FitsL cs xs→FitsL ds ys→FitsL (cs ++ ds) (xs ++ ys)
 | [],ds,[],ys,_,h=>h
 | c :: cs,ds,x :: xs,ys,h,h'=>by simp only [FitsL,List.cons_append] at h ⊢; exact ⟨h.1,FitsL.app h.2 h'⟩
 | [],_,_ :: _,_,h,_=>by simp [FitsL] at h
 | _ :: _,_,[],_,h,_=>by simp [FitsL] at h
def RelVs (W:World) (xs:List SV) (cs:List Value):Prop:=cs.length=xs.length∧∀ (k:Nat) c v,(SV.denL xs)[k]? = some c→cs[k]? = some v→Rel (oldS W) W noNames c v
theorem denL_len (xs:List SV):(SV.denL xs).length=xs.length:=by simp [denL_eq]
theorem RelVs.app {W:World} {xs ys:List SV} {cs ds:List Value} (h:RelVs W xs cs) (h':RelVs W ys ds):RelVs W (xs ++ ys) (cs ++ ds):=by
 refine ⟨by simp [h.1,h'.1],fun k c v h1 h2 => ?_⟩
 rw [denL_append] at h1
 by_cases hk:k<xs.length
 ·rw [List.getElem?_append_left (by rw [denL_len]; exact hk)] at h1
  rw [List.getElem?_append_left (by rw [h.1]; exact hk)] at h2
  exact h.2 k c v h1 h2
 ·rw [List.getElem?_append_right (by rw [denL_len]; omega),denL_len] at h1
  rw [List.getElem?_append_right (by rw [h.1]; omega),h.1] at h2
  exact h'.2 _ c v h1 h2
theorem RelVs.one {W:World} {x:SV} {v:Value} (h:Rel (oldS W) W noNames x.den v):RelVs W [x] [v]:=by
 refine ⟨rfl,fun k c u h1 h2 => ?_⟩
 cases k with
 | zero=>simp [SV.denL] at h1 h2; subst h1; subst h2; exact h
 | succ k=>simp at h2
theorem RelVs.nil {W:World} : RelVs W [] []:=⟨rfl,fun k c u h1 h2=>by simp at h2⟩
section
variable {H : Type} {enc : TypeId × Value → H} {P : Program} {W : World}
theorem shFs_rel {g:TypeId→Option (List Sh)} {cs:List Value} : ∀ (fs:List Field) (o:Nat) (shs:List Sh),shFs P g fs o=some shs →
  (∀ f ∈ fs,∀ sh,g f.type=some sh → ∃ xs,FitsL sh xs∧RelVs W xs ((cs.drop f.offset).take (P.cellsOf f.type))) →
  ∃ xs,FitsL shs xs∧RelVs W xs ((cs.drop o).take shs.length)
 | [],o,shs,h,_=>by
  simp only [shFs,Option.some.injEq] at h
  subst h
  exact ⟨[],by simp [FitsL],by simpa using RelVs.nil⟩
 | f :: fs,o,shs,h,hf=>by
  unfold shFs at h
  split at h
  ·rename_i sh hg
   split at h
   ·rename_i hc
    obtain ⟨hc1,hc2⟩:=hc
    split at h
    ·rename_i ds hd
     cases h
     obtain ⟨xs,h1,h2⟩:=hf f (by simp) sh hg
     obtain ⟨ys,h3,h4⟩:=shFs_rel fs _ ds hd (fun f' hf'=>hf f' (by simp [hf']))
     refine ⟨xs ++ ys,h1.app h3,?_⟩
     rw [List.length_append,List.take_add,List.drop_drop]
     rw [hc1,← hc2] at h2
     exact h2.app h4
    ·cases h
   ·cases h
  ·cases h
theorem rep_rel {sh:List Sh} {cs:List Value} : ∀ (k i:Nat),(∀ j,i≤j→j<i+k → ∃ xs,FitsL sh xs∧RelVs W xs ((cs.drop (j*sh.length)).take sh.length)) →
  ∃ xs,FitsL (rep k sh) xs∧RelVs W xs ((cs.drop (i*sh.length)).take (k*sh.length))
 | 0,i,_=>⟨[],by simp [rep,FitsL],by simpa using RelVs.nil⟩
 | k+1,i,h=>by
  obtain ⟨xs,h1,h2⟩:=h i (Nat.le_refl i) (by omega)
  obtain ⟨ys,h3,h4⟩:=rep_rel k (i+1) (fun j a b=>h j (by omega) (by omega))
  refine ⟨xs ++ ys,h1.app h3,?_⟩
  have e:(k+1)*sh.length=sh.length+k*sh.length:=by rw [Nat.add_mul]; omega
  rw [Nat.add_mul,Nat.one_mul] at h4
  rw [e,List.take_add,List.drop_drop]
  exact h2.app h4
theorem shF_rel:∀ (d:Nat) (t:TypeId) (shs:List Sh) (fuel:Nat) (cs:List Value) (x:DataW H × List MemPlace),shF P d t=some shs→DataW.trod enc P W 0 (fun _=>true) true fuel t cs=some x → ∃ xs,FitsL shs xs∧RelVs W xs cs
 | 0,t,shs,fuel,cs,x,h,_=>by simp [shF] at h
 | d+1,t,shs,fuel,cs,x,h,hx=>by
  unfold shF at h
  split at h
  ·rename_i k ht
   cases h
   obtain ⟨n,rfl,-,hw⟩:=DataW.trod_int ht hx
   exact ⟨[.int k n],by simp [FitsL,Fits,hw],.one (.lit _)⟩
  ·rename_i ht
   cases h
   obtain ⟨b,rfl,-⟩:=DataW.trod_bool ht hx
   exact ⟨[.bool b],by simp [FitsL,Fits],.one (.lit _)⟩
  ·rename_i e ht
   split at h
   ·rename_i sh he
    split at h
    ·rename_i hc
     obtain ⟨hc1,hc2⟩:=hc
     cases h
     rcases Deep.open_slice ht hx with ⟨rfl,-⟩ | ⟨a,len,cap,m,n,D,Pl,rfl,-,hlc,hmax,hm,-,hall⟩
     ·exact ⟨[.sl sh.length 0 fun _=>[]],by simp only [FitsL,Fits,and_true]; exact ⟨0,_,rfl,by omega,fun i hi=>by omega⟩,.one .vslNil⟩
     ·have hm':m=cap:=by rw [hm]; simp
      have hi:∀ i,i<len → ∃ q:List SV × List Value,FitsL sh q.1∧RelVs W q.1 q.2∧W.cells? 0 (a.add (i*P.cellsOf e)) (P.cellsOf e)=some q.2:=fun i hi=>by
       obtain ⟨cs',h1,h2⟩:=hall i (by omega)
       obtain ⟨xs,h3,h4⟩:=shF_rel d e sh n cs' _ he h2
       exact ⟨(xs,cs'),h3,h4,h1⟩
      obtain ⟨q,hq⟩:=Deep.choose_lt hi
      refine ⟨[.sl sh.length len fun i=>(q i).1],?_,?_⟩
      ·simp only [FitsL,Fits,and_true]
       exact ⟨len,_,rfl,by omega,fun i hi=>(hq i hi).1⟩
      ·refine .one ?_
       simp only [SV.den]
       by_cases hl:len=0
       ·subst hl; exact .vslNil
       ·obtain ⟨b,off,s⟩:=a
        have hcell:∀ i,i<len→∀ j,j<sh.length→W.cell? ((⟨b,off,s⟩:Addr).add (i*sh.length+j))=(q i).2[j]? := fun i hi j hj=>by
         obtain ⟨-,-,h3⟩:=hq i hi
         obtain ⟨-,h4,h5⟩:=World.cells?_some h3
         have h5:=h5 j (by omega)
         rw [Deep.add_add,← hc1] at h5
         exact h5
        have hlen:∀ i,i<len→(q i).2.length=sh.length:=fun i hi=>by
         obtain ⟨h1,h2,h3⟩:=hq i hi
         rw [h2.1,h1.len]
        have h00:=hcell 0 (by omega) 0 hc2
        rw [List.getElem?_eq_getElem (by rw [hlen 0 (by omega)]; exact hc2)] at h00
        have hs:s=none:=by
         simp only [Nat.zero_mul,Nat.add_zero,Addr.add,if_true] at h00
         unfold World.cell? at h00
         split at h00
         ·cases s with
          | none=>rfl
          | some _=>simp at h00
         ·cases h00
        subst hs
        have hb:b<W.heap.size:=by
         simp only [Nat.zero_mul,Nat.add_zero,Addr.add,if_true] at h00
         unfold World.cell? at h00
         split at h00
         ·rename_i hc; exact (Array.getElem?_eq_some_iff.1 hc).1
         ·cases h00
        have hadd:∀ k,(⟨b,off,none⟩:Addr).add k=⟨b,off+k,none⟩:=fun k=>by
         unfold Addr.add
         split
         ·rename_i h0; subst h0; rfl
         ·rfl
        have hrow:∀ (k:Nat) cs,(rowsOf len fun i=>(q i).1)[k]? = some cs→k<len∧cs=SV.denL (q k).1:=fun k cs h=>by
         rw [rowsOf_get] at h
         split at h
         ·rename_i hk; exact ⟨hk,(Option.some.inj h).symm⟩
         ·cases h
        have key:=Rel.vsl (S:=oldS W) (w:=W) (ρ:=noNames) (sz:=sh.length) (b:=b) (off:=off) (cap:=cap) (xs:=rowsOf len fun i=>(q i).1)
         (fun k j=>(q k).2.getD j undef) (by rw [rowsOf_length]; exact hlc) hb (fun k cs h=>by
          obtain ⟨hk,rfl⟩:=hrow k cs h
          rw [denL_len,(hq k hk).1.len]) (fun k j cs c h1 h2 => ?_) (fun k j cs c h1 h2 => ?_)
        ·rw [rowsOf_length] at key; exact key
        ·obtain ⟨hk,rfl⟩:=hrow k cs h1
         have hj:j<sh.length:=by
          have:=(List.getElem?_eq_some_iff.1 h2).1
          rw [denL_len,(hq k hk).1.len] at this; exact this
         have h5:=hcell k hk j hj
         rw [hadd] at h5
         rw [Nat.add_assoc,h5,List.getElem?_eq_getElem (by rw [hlen k hk]; exact hj)]
         simp [List.getD,List.getElem?_eq_getElem (show j<(q k).2.length by rw [hlen k hk]; exact hj)]
        ·obtain ⟨hk,rfl⟩:=hrow k cs h1
         have hj:j<sh.length:=by
          have:=(List.getElem?_eq_some_iff.1 h2).1
          rw [denL_len,(hq k hk).1.len] at this; exact this
         refine (hq k hk).2.1.2 j c _ h2 ?_
         simp [List.getD,List.getElem?_eq_getElem (show j<(q k).2.length by rw [hlen k hk]; exact hj)]
    ·cases h
   ·cases h
  ·rename_i fs ht
   split at h
   ·rename_i sh he
    split at h
    ·rename_i hc
     cases h
     obtain ⟨ys,n,-,-,hl,hlen,hf⟩:=DataW.trod_struct ht hx
     obtain ⟨xs,h1,h2⟩:=shFs_rel (P:=P) (W:=W) (cs:=cs) fs.toList 0 _ he (fun f hf' sh' hg=>by
      obtain ⟨i,hi⟩:=List.mem_iff_getElem?.1 hf'
      rw [Array.getElem?_toList] at hi
      have:=hf i f hi
      have hil:i<ys.length:=by rw [hlen]; exact (Array.getElem?_eq_some_iff.1 hi).1
      rw [List.getElem?_eq_getElem hil] at this
      exact shF_rel d f.type sh' n _ _ hg this)
     refine ⟨xs,h1,?_⟩
     rw [List.drop_zero,hc,← hl,List.take_length] at h2
     exact h2
    ·cases h
   ·cases h
  ·rename_i n e ht
   split at h
   ·rename_i sh he
    split at h
    ·rename_i hc
     obtain ⟨hc1,hc2⟩:=hc
     cases h
     obtain ⟨ys,m,-,-,hl,hlen,hf⟩:=DataW.trod_array ht hx
     obtain ⟨xs,h1,h2⟩:=rep_rel (W:=W) (sh:=sh) (cs:=cs) n 0 (fun j _ hj=>by
      have:=hf j (by omega)
      rw [List.getElem?_eq_getElem (show j<ys.length by omega),← hc2] at this
      exact shF_rel d e sh m _ _ he this)
     refine ⟨xs,h1,?_⟩
     rw [Nat.zero_mul,List.drop_zero,hc1,← hl,List.take_length] at h2
     exact h2
    ·cases h
   ·cases h
  ·cases h
def parSh (P:Program) (t:TypeId):Option (Bool × List Sh) :=
 match shF P 20 t with
 | some cs =>
  match P.underlying t with
  | some (.struct _)=>some (true,cs)
  | some (.array _ _)=>some (true,cs)
  | some (.int _) | some .bool | some (.slice _)=>some (false,cs)
  | _=>none
 | none=>none
def ParFits:Bool × List Sh→SV→Prop
 | (true,shs),v => ∃ cs,v = .agg cs∧FitsL shs cs
 | (false,shs),v=>FitsL shs [v]
def ParsFit:List (Bool × List Sh)→List SV→Prop
 | [],[]=>True
 | p :: ps,v :: vs=>ParFits p v∧ParsFit ps vs
 | _,_=>False
def parsSh (P:Program):List TypeId→Option (List (Bool × List Sh))
 | []=>some []
 | t :: ts =>
  match parSh P t,parsSh P ts with
  | some p,some ps=>some (p :: ps)
  | _,_=>none
theorem par_rel {r:Reach} {b0:Nat} {t:TypeId} {p:Bool × List Sh} {v:Value} {d:DataW H} {ps:List MemPlace} (h:parSh P t=some p) (hval:Value.okWide P W r b0 t v) (hd:DataW.Trod enc P W 0 (fun _=>true) true t v d ps) :
  ∃ x,ParFits p x∧Rel (oldS W) W noNames x.den v:=by
 unfold parSh at h
 obtain ⟨fuel,hf⟩:=hd
 split at h
 ·rename_i cs hs
  obtain ⟨xs,h1,h2⟩:=shF_rel 20 t cs fuel _ _ hs hf
  have one:∀ {u:Value},v=u→u.cells.toList=[u]→ParFits (false,cs) (xs.getD 0 .top)∧Rel (oldS W) W noNames (xs.getD 0 .top).den v:=fun {u} e e'=>by
   subst e
   rw [e'] at h2
   match xs,h1,h2 with
   | [x],h1,h2=>exact ⟨h1,h2.2 0 _ _ (by simp [SV.denL]) rfl⟩
   | [],_,h2=>exact absurd h2.1 (by simp)
   | _ :: _ :: _,_,h2=>exact absurd h2.1 (by simp)
  split at h
  ·rename_i fs ht
   cases h
   obtain ⟨us,rfl,hu⟩:=okWide_struct ht hval
   refine ⟨.agg xs,⟨xs,rfl,h1⟩,?_⟩
   simp only [SV.den]
   refine .agg (by rw [denL_len]; exact h2.1) (fun k c u e1 e2=>h2.2 k c u e1 (by simpa [Value.cells] using e2))
  ·rename_i n e ht
   cases h
   have hv : ∃ us,v = .agg us:=by
    unfold Value.okWide at hval
    rw [ht] at hval
    obtain ⟨us,e,-⟩:=hval
    exact ⟨us,e⟩
   obtain ⟨us,rfl⟩:=hv
   refine ⟨.agg xs,⟨xs,rfl,h1⟩,?_⟩
   simp only [SV.den]
   refine .agg (by rw [denL_len]; exact h2.1) (fun k c u e1 e2=>h2.2 k c u e1 (by simpa [Value.cells] using e2))
  ·rename_i k ht
   cases h
   obtain ⟨n,rfl⟩:=okWide_int ht hval
   exact ⟨_,one rfl rfl⟩
  ·rename_i ht
   cases h
   obtain ⟨n,rfl⟩:=okWide_bool ht hval
   exact ⟨_,one rfl rfl⟩
  ·rename_i e ht
   cases h
   obtain ⟨a,l,c,rfl⟩:=okWide_slice ht hval
   exact ⟨_,one rfl rfl⟩
  ·cases h
 ·cases h
theorem pars_rel {r:Reach} {b0:Nat} : ∀ {ts:List TypeId} {ss:List (Bool × List Sh)} {vs:List Value} {ds:List (DataW H)} {ps:List MemPlace},parsSh P ts=some ss →
  (∀ (j:Nat) t v,ts[j]? = some t→vs[j]? = some v→Value.okWide P W r b0 t v)→DataW.TrodAll enc P W 0 (fun _=>true) true ts vs ds ps → ∃ xs,ParsFit ss xs∧RelCs (oldS W) W noNames (SV.denL xs) vs.toArray
 | [],ss,[],ds,ps,h,_,_=>by
  simp only [parsSh,Option.some.injEq] at h
  subst h
  exact ⟨[],by simp [ParsFit],relCs_nil⟩
 | [],_,_ :: _,[],_,_,_,h=>h.elim
 | [],_,_ :: _,_ :: _,_,_,_,h=>h.elim
 | _ :: _,_,[],[],_,_,_,h=>h.elim
 | _ :: _,_,[],_ :: _,_,_,_,h=>h.elim
 | _ :: _,_,_ :: _,[],_,_,_,h=>h.elim
 | t :: ts,ss,v :: vs,d :: ds,ps,h,hv,hd=>by
  unfold parsSh at h
  split at h
  ·rename_i p q hp hq
   cases h
   obtain ⟨p',q',h1,h2,rfl⟩:=hd
   obtain ⟨x,h3,h4⟩:=par_rel hp (hv 0 t v rfl rfl) h1
   obtain ⟨xs,h5,h6⟩:=pars_rel hq (fun j t' v' e1 e2=>hv (j+1) t' v' (by simpa using e1) (by simpa using e2)) h2
   refine ⟨x :: xs,⟨h3,h5⟩,?_⟩
   simp only [SV.denL]
   exact relCs_cons h4 h6
  ·cases h
end
theorem trodAll_len {H:Type} {enc:TypeId × Value→H} {P:Program} {W:World} {b:Nat} {sp:Nat→Bool} {hd:Bool} : ∀ {ts:List TypeId} {vs:List Value} {ds:List (DataW H)} {ps:List MemPlace},DataW.TrodAll enc P W b sp hd ts vs ds ps→ds.length=ts.length
 | [],[],[],_,_=>rfl
 | [],[],_ :: _,_,h=>h.elim
 | [],_ :: _,[],_,h=>h.elim
 | [],_ :: _,_ :: _,_,h=>h.elim
 | _ :: _,[],[],_,h=>h.elim
 | _ :: _,[],_ :: _,_,h=>h.elim
 | _ :: _,_ :: _,[],_,h=>h.elim
 | _ :: ts,_ :: vs,_ :: ds,ps,h=>by
  obtain ⟨p,q,h1,h2,rfl⟩:=h
  simp [trodAll_len h2]
theorem parsFit_nil {xs:List SV} (h:ParsFit [] xs):xs=[]:=by
 cases xs with
 | nil=>rfl
 | cons x ys=>exact h.elim
end Go.Proofs.Ytoncoofmijjgeaa.Sep
