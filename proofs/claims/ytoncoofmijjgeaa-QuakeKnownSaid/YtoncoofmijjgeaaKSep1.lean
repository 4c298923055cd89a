/-
  Texts of one seat, joined. No condition. (This text proves no statement by itself.)
-/
import Derived.CallsIn
import Derived.RangeFuncNested
import Derived.Laws.Cells
import Derived.Laws.AppendOwn
import Derived.KernelRfl
import Derived.Laws.Cover3
import Derived.Laws.Pointers
import Derived.Laws.Append
import Derived.OrdersIn
namespace Go.Proofs.Ytoncoofmijjgeaa.Sep
open Go
set_option linter.unusedVariables false
set_option linter.unusedSimpArgs false
inductive AV where
 | top
 | lit (v:Value)
 | ptr (i off:Nat)
 | rptr (i sz n j:Nat)
 | vec (i sz lo len:Nat)
 | vsl (sz:Nat) (xs:List (List AV))
 | vptr (sz:Nat) (xs:List (List AV)) (n j:Nat)
 | agg (cs:List AV)
 | tup (cs:List AV)
 | fn (f:Fn) (first cap:List AV)
 | when (g:Bool) (x:AV)
 deriving Inhabited
abbrev I (n:Int):AV:=.lit (.int .i64 n)
abbrev B (b:Bool):AV:=.lit (.bool b)
abbrev Names:=Nat→Option Nat
def noNames:Names:=fun _=>none
inductive Rel (S:Nat→Prop) (w:World):Names→AV→Value→Prop
 | top {ρ} (v:Value):Rel S w ρ .top v
 | lit {ρ} (v:Value):Rel S w ρ (.lit v) v
 | ptr {ρ:Names} {i off b:Nat} (h:ρ i=some b):Rel S w ρ (.ptr i off) (.pointer (some ⟨b,off,none⟩))
 | rptr {ρ:Names} {i sz n j b:Nat} (h:ρ i=some b):Rel S w ρ (.rptr i sz n j) (.pointer (some ⟨b,n*sz+j,none⟩))
 | vec0 {ρ:Names} {i sz lo:Nat} {a:Option Addr} : Rel S w ρ (.vec i sz lo 0) (.slice a 0 0)
 | vec {ρ:Names} {i sz lo len b cap n:Nat} {T:TypeId} (h:ρ i=some b) (hs:w.shape? b=some (T,n)) (hc:lo*sz+cap*sz≤n) (hl:len≤cap∧cap≤9223372036854775807) :
   Rel S w ρ (.vec i sz lo len) (.slice (some ⟨b,lo*sz,none⟩) len cap)
 | vslNil {ρ:Names} {sz:Nat} {a:Option Addr} {cap:Nat} : Rel S w ρ (.vsl sz []) (.slice a 0 cap)
 | vsl {ρ:Names} {sz b off cap:Nat} {xs:List (List AV)} (vs:Nat→Nat→Value) (hc:xs.length≤cap) (hS:S b)
   (hz:∀ (k:Nat) cs,xs[k]? = some cs→cs.length=sz)
   (hv:∀ (k j:Nat) cs c,xs[k]? = some cs→cs[j]? = some c→w.cell? ⟨b,off+k*sz+j,none⟩=some (vs k j))
   (hr:∀ (k j:Nat) cs c,xs[k]? = some cs→cs[j]? = some c→Rel S w noNames c (vs k j)) :
   Rel S w ρ (.vsl sz xs) (.slice (some ⟨b,off,none⟩) xs.length cap)
 | vptr {ρ:Names} {sz b off n j:Nat} {xs:List (List AV)} (vs:Nat→Nat→Value) (hS:S b)
   (hz:∀ (k:Nat) cs,xs[k]? = some cs→cs.length=sz)
   (hv:∀ (k j:Nat) cs c,xs[k]? = some cs→cs[j]? = some c→w.cell? ⟨b,off+k*sz+j,none⟩=some (vs k j))
   (hr:∀ (k j:Nat) cs c,xs[k]? = some cs→cs[j]? = some c→Rel S w noNames c (vs k j)) :
   Rel S w ρ (.vptr sz xs n j) (.pointer (some ⟨b,off+n*sz+j,none⟩))
 | agg {ρ:Names} {cs:List AV} {vs:Array Value} (hl:vs.size=cs.length) (h:∀ (k:Nat) c v,cs[k]? = some c→vs[k]? = some v→Rel S w ρ c v):Rel S w ρ (.agg cs) (.agg vs)
 | tup {ρ:Names} {cs:List AV} {vs:Array Value} (hl:vs.size=cs.length) (h:∀ (k:Nat) c v,cs[k]? = some c→vs[k]? = some v→Rel S w ρ c v):Rel S w ρ (.tup cs) (.tuple vs)
 | fn {ρ:Names} {f:Fn} {xs cs:List AV} {ys vs:Array Value} (hl:ys.size=xs.length) (h:∀ (k:Nat) c v,xs[k]? = some c→ys[k]? = some v→Rel S w ρ c v)
   (hl':vs.size=cs.length) (h':∀ (k:Nat) c v,cs[k]? = some c→vs[k]? = some v→Rel S w ρ c v):Rel S w ρ (.fn f xs cs) (.func f ys vs)
 | when {ρ:Names} {g:Bool} {x:AV} {v:Value} (h:g=true→Rel S w ρ x v) (h':g=false→v=undef):Rel S w ρ (.when g x) v
def Names.le (ρ ρ':Names):Prop:=∀ i b,ρ i=some b→ρ' i=some b
theorem Names.le.refl (ρ:Names):ρ.le ρ:=fun _ _ h=>h
theorem Names.le.trans {ρ ρ' ρ'':Names} (h:ρ.le ρ') (h':ρ'.le ρ''):ρ.le ρ'':=fun i b e=>h' i b (h i b e)
def shp (w:World) (b:Option Nat):Option (Option (TypeId × Nat) × Os × Array (Nat × ByteArray)):=match b with
 | none=>some (none,w.os,w.output)
 | some b=>(w.shape? b).map fun s=>(some s,w.os,w.output)
theorem shp_shape {w w':World} (h:∀ b s,shp w b=some s→shp w' b=some s) {b:Nat} {t:TypeId × Nat} (e:w.shape? b=some t):w'.shape? b=some t:=by
 have h1:=h (some b) (some t,w.os,w.output) (by simp [shp,e])
 simp only [shp,Option.map_eq_some_iff,Prod.mk.injEq,Option.some.injEq] at h1
 obtain ⟨u,h2,rfl,-⟩:=h1
 exact h2
theorem shp_io {w w':World} (h:∀ b s,shp w b=some s→shp w' b=some s):w'.os=w.os∧w'.output=w.output:=by
 have h1:=h none (none,w.os,w.output) rfl
 simp only [shp,Option.some.injEq,Prod.mk.injEq,true_and] at h1
 exact h1
theorem shp_all {w w':World} (hio:w'.os=w.os∧w'.output=w.output) (h:∀ b t,w.shape? b=some t→w'.shape? b=some t):∀ b s,shp w b=some s→shp w' b=some s:=fun b s e=>by
 cases b with
 | none=>simp only [shp] at e ⊢; rw [hio.1,hio.2]; exact e
 | some b =>
  simp only [shp,Option.map_eq_some_iff] at e ⊢
  obtain ⟨t,h1,rfl⟩:=e
  exact ⟨t,h b t h1,by rw [hio.1,hio.2]⟩
structure Kept (S:Nat→Prop) (w w':World):Prop where
 size:w.heap.size≤w'.heap.size
 shape:∀ b s,shp w b=some s→shp w' b=some s
 same:∀ b vs T fz,S b→w.heap[b]? = some (.cells vs T fz)→w'.heap[b]? = some (.cells vs T fz)
theorem Kept.of {S:Nat→Prop} {w w':World} (h1:w.heap.size≤w'.heap.size) (h2:∀ b s,shp w b=some s→shp w' b=some s) (h3:∀ b,S b→w'.heap[b]? = w.heap[b]?):Kept S w w' :=
 ⟨h1,h2,fun b vs T fz hb h=>(h3 b hb).trans h⟩
theorem Kept.refl (S:Nat→Prop) (w:World):Kept S w w:=⟨Nat.le_refl _,fun _ _ h=>h,fun _ _ _ _ _ h=>h⟩
theorem Kept.trans {S S':Nat→Prop} {w w' w'':World} (h:Kept S w w') (h':Kept S' w' w'') (hS:∀ b,S b→S' b):Kept S w w'' :=
 ⟨Nat.le_trans h.size h'.size,fun b s e=>h'.shape b s (h.shape b s e),fun b vs T fz hb e=>h'.same b vs T fz (hS b hb) (h.same b vs T fz hb e)⟩
theorem Kept.cell {S:Nat→Prop} {w w':World} (h:Kept S w w') {a:Addr} {v:Value} (hb:S a.block) (hv:w.cell? a=some v):w'.cell? a=some v:=by
 unfold World.cell? at hv
 split at hv
 ·rename_i c T fz hc
  simp only [World.cell?,h.same _ _ _ _ hb hc]; exact hv
 ·cases hv
theorem Rel.mono {S S':Nat→Prop} {w w':World} {ρ ρ':Names} {x:AV} {v:Value} (h:Rel S w ρ x v) (hk:Kept S w w') (hS:∀ b,S b→S' b) (hρ:ρ.le ρ'):Rel S' w' ρ' x v:=by
 induction h generalizing ρ' with
 | top v=>exact .top v
 | lit v=>exact .lit v
 | ptr h=>exact .ptr (hρ _ _ h)
 | rptr h=>exact .rptr (hρ _ _ h)
 | vec0=>exact .vec0
 | vec h hs hc hl=>exact .vec (hρ _ _ h) (shp_shape hk.shape hs) hc hl
 | vslNil=>exact .vslNil
 | vsl vs hc hSb hz hv hr ih =>
  exact .vsl vs hc (hS _ hSb) hz (fun k j cs c h1 h2=>hk.cell (a:=⟨_,_,none⟩) hSb (hv k j cs c h1 h2)) (fun k j cs c h1 h2=>ih k j cs c h1 h2 (Names.le.refl _))
 | vptr vs hSb hz hv hr ih =>
  exact .vptr vs (hS _ hSb) hz (fun k j cs c h1 h2=>hk.cell (a:=⟨_,_,none⟩) hSb (hv k j cs c h1 h2)) (fun k j cs c h1 h2=>ih k j cs c h1 h2 (Names.le.refl _))
 | agg hl h ih=>exact .agg hl (fun k c v h1 h2=>ih k c v h1 h2 hρ)
 | tup hl h ih=>exact .tup hl (fun k c v h1 h2=>ih k c v h1 h2 hρ)
 | fn hl h hl' h' ih ih'=>exact .fn hl (fun k c v h1 h2=>ih k c v h1 h2 hρ) hl' (fun k c v h1 h2=>ih' k c v h1 h2 hρ)
 | when h h' ih=>exact .when (fun e=>ih e hρ) h'
inductive Blk where
 | dead
 | cells (cs:List AV)
 | row (sz:Nat) (xs:List (List AV))
 deriving Inhabited
def Blk.live:Blk→Bool
 | .dead=>false
 | _=>true
def BlkRel (S:Nat→Prop) (w:World) (ρ:Names) (o:Option Nat):Blk→Prop
 | .dead=>True
 | .cells cs => ∃ n vs T,o=some n∧w.heap[n]? = some (.cells vs T (0,0))∧vs.size=cs.length∧∀ (k:Nat) c v,cs[k]? = some c→vs[k]? = some v→Rel S w ρ c v
 | .row sz xs=>0<sz∧(∀ (k:Nat) cs,xs[k]? = some cs→cs.length=sz)∧((o=none∧xs=[]) ∨
   ∃ n vs T,o=some n∧w.heap[n]? = some (.cells vs T (0,0))∧∀ (k j:Nat) cs c,xs[k]? = some cs→cs[j]? = some c → ∃ v,vs[k*sz+j]? = some v∧Rel S w noNames c v)
theorem BlkRel.mono {S S':Nat→Prop} {w w':World} {ρ ρ':Names} {o:Option Nat} {b:Blk} (h:BlkRel S w ρ o b) (hk:Kept S w w') (hS:∀ b,S b→S' b) (hρ:ρ.le ρ')
  (ho:∀ n,o=some n→w'.heap[n]? = w.heap[n]?):BlkRel S' w' ρ' o b:=by
 cases b with
 | dead=>trivial
 | cells cs =>
  obtain ⟨n,vs,T,rfl,hn,hl,hr⟩:=h
  exact ⟨n,vs,T,rfl,(ho n rfl).trans hn,hl,fun k c v h1 h2=>(hr k c v h1 h2).mono hk hS hρ⟩
 | row sz xs =>
  obtain ⟨h0,hz,h⟩:=h
  refine ⟨h0,hz,h.imp id ?_⟩
  rintro ⟨n,vs,T,rfl,hn,hr⟩
  exact ⟨n,vs,T,rfl,(ho n rfl).trans hn,fun k j cs c h1 h2=>let ⟨v,hv,hr'⟩:=hr k j cs c h1 h2; ⟨v,hv,hr'.mono hk hS (Names.le.refl _)⟩⟩
structure Ctx where
 w0:World
 ρ0:Names
 S0:Nat→Prop
 /-- what may be written of what lay there -/
 O:Nat→Prop
 /-- what others leave alone -/
 X:Nat→Prop
abbrev Ctx.of (w:World) (ρ:Names) (S:Nat→Prop):Ctx:=⟨w,ρ,S,fun b => ∃ j,ρ j=some b,fun b => ∃ j,ρ j=some b⟩
def Marks (C:Ctx) (w:World) (ds:List Deferred):Prop :=
 ∃ ns:List Nat,ds=ns.map (fun n => { target:=.collected n,args := #[] })∧ns.Nodup∧∀ n ∈ ns,(C.O n∨C.w0.heap.size≤n)∧w.heap[n]? = some (.deferred (some []))
structure Mem (C:Ctx) (ρ:Names) (S:Nat→Prop) (H:Nat→Option Blk) (nx:Nat→Prop) (w:World):Prop where
 size:C.w0.heap.size≤w.heap.size
 shape:∀ b s,shp C.w0 b=some s→shp w b=some s
 old:∀ b,b<C.w0.heap.size→¬ C.O b→w.heap[b]? = C.w0.heap[b]?
 ent:C.ρ0.le ρ
 s0:∀ b,C.S0 b→S b
 snew:∀ b,S b→C.S0 b∨C.w0.heap.size≤b∨C.O b
 sin:∀ b,S b→b<w.heap.size
 rin:∀ i b,ρ i=some b→b<w.heap.size∧(C.O b∨C.w0.heap.size≤b)
 own:∀ i k b,H i=some k→k.live=true→ρ i=some b→¬ S b
 inj:∀ i j k l b,H i=some k→k.live=true→H j=some l→l.live=true→ρ i=some b→ρ j=some b→i=j
 blk:∀ i k,H i=some k→BlkRel S w ρ (ρ i) k
 free:∀ i,nx i→H i=none∧ρ i=none
 keep:∀ b vs T fz,C.S0 b→C.w0.heap[b]? = some (.cells vs T fz)→w.heap[b]? = some (.cells vs T fz)
structure Rep (C:Ctx) (N:Nat) (ρ:Names) (S:Nat→Prop) (A:Nat→AV) (H:Nat→Option Blk) (nx:Nat→Prop) (a:Act) (w:World):Prop where
 mem:Mem C ρ S H nx w
 size:a.tmps.size=N
 slots:∀ t v,a.tmps[t]? = some v→Rel S w ρ (A t) v
 marks:Marks C w a.defers
 dk:∀ n:Nat,C.w0.heap[n]? = some (.deferred (some []))→w.heap[n]? = some (.deferred (some []))
end Go.Proofs.Ytoncoofmijjgeaa.Sep
namespace Go.Proofs.Ytoncoofmijjgeaa.Sep
open Go
set_option linter.unusedVariables false
set_option linter.unusedSimpArgs false
def updS (A:Nat→AV) (d:Option Nat) (v:AV):Nat→AV:=fun t=>if d=some t then v else A t
def updH (H:Nat→Option Blk) (i:Nat) (b:Blk):Nat→Option Blk:=fun j=>if j=i then some b else H j
def updN (ρ:Names) (i:Nat) (b:Nat):Names:=fun j=>if j=i then some b else ρ j
def lessOne (nx:Nat→Prop) (i:Nat):Nat→Prop:=fun j=>nx j∧j≠i
theorem updH_same {H:Nat→Option Blk} {i:Nat} {b:Blk} : updH H i b i=some b:=by simp [updH]
theorem updH_ne {H:Nat→Option Blk} {i j:Nat} {b:Blk} (h:j≠i):updH H i b j=H j:=by simp [updH,h]
theorem put_tmps (a:Act) (d:Nat) (v:Value) (t:Nat) (u:Value) (h:(a.put (some d) v).tmps[t]? = some u):(t=d∧u=v)∨(t≠d∧a.tmps[t]? = some u):=by
 simp only [Act.put,Array.getElem?_setIfInBounds] at h
 by_cases hd:d=t
 ·subst hd
  simp at h
  exact .inl ⟨rfl,h.2.symm⟩
 ·simp [hd] at h
  exact .inr ⟨fun e=>hd e.symm,h⟩
theorem Marks.keep {C:Ctx} {w w':World} {ds:List Deferred} (h:Marks C w ds) (hs:∀ n:Nat,w.heap[n]? = some (.deferred (some []))→w'.heap[n]? = some (.deferred (some []))):Marks C w' ds:=by
 obtain ⟨ns,h1,h2,h3⟩:=h
 exact ⟨ns,h1,h2,fun n hn=>⟨(h3 n hn).1,hs n (h3 n hn).2⟩⟩
theorem Rep.put {C:Ctx} {N:Nat} {ρ:Names} {S:Nat→Prop} {A:Nat→AV} {H:Nat→Option Blk} {nx:Nat→Prop} {a:Act} {w:World} (h:Rep C N ρ S A H nx a w) (d:Option Nat) {x:AV} {v:Value}
  (hv:Rel S w ρ x v):Rep C N ρ S (updS A d x) H nx (a.put d v) w:=by
 refine ⟨h.mem,by cases d <;> simpa [Act.put] using h.size,?_,?_,h.dk⟩
 ·intro t u hu
  cases d with
  | none=>simpa [updS] using h.slots t u hu
  | some d =>
   rcases put_tmps a d v t u hu with ⟨rfl,rfl⟩ | ⟨hne,hu'⟩
   ·simpa [updS] using hv
   ·have:¬ (some d=some t):=fun e=>hne (by cases e; rfl)
    simp only [updS,this,if_false]
    exact h.slots t u hu'
 ·cases d <;> exact h.marks
theorem Mem.step {C:Ctx} {ρ ρ':Names} {S S':Nat→Prop} {H H':Nat→Option Blk} {nx nx':Nat→Prop} {w w':World} (W:Nat→Prop) (h:Mem C ρ S H nx w)
  (hsize:w.heap.size≤w'.heap.size) (hshape:∀ b s,shp w b=some s→shp w' b=some s)
  (hsame:∀ b,b<w.heap.size→¬ W b→w'.heap[b]? = w.heap[b]?)
  (hW:∀ b,W b→(∃ i k,H i=some k∧k.live=true∧ρ i=some b)∨((C.O b∨C.w0.heap.size≤b)∧∀ vs T fz,w.heap[b]? ≠ some (.cells vs T fz)))
  (hρ:ρ.le ρ') (hρn:∀ i b,ρ' i=some b→(∃ j,ρ j=some b)∨(w.heap.size≤b∧b<w'.heap.size))
  (hS:∀ b,S b→S' b) (hSn:∀ b,S' b→S b∨((C.w0.heap.size≤b∨C.O b)∧b<w'.heap.size))
  (hblk:∀ i k,H' i=some k→(H i=some k∧∀ b,ρ' i=some b→ρ i=some b∧¬ W b)∨BlkRel S' w' ρ' (ρ' i) k)
  (hown:∀ i k b,H' i=some k→k.live=true→ρ' i=some b→¬ S' b)
  (hinj:∀ i j k l b,H' i=some k→k.live=true→H' j=some l→l.live=true→ρ' i=some b→ρ' j=some b→i=j)
  (hfree:∀ i,nx' i→H' i=none∧ρ' i=none):Mem C ρ' S' H' nx' w':=by
 have hk:Kept S w w':=⟨hsize,hshape,fun b vs T fz hb hc=>(hsame b (h.sin b hb) (fun hw=>by
  rcases hW b hw with ⟨i,k,h1,h2,h3⟩ | ⟨-,h1⟩
  ·exact h.own i k b h1 h2 h3 hb
  ·exact h1 vs T fz hc)).trans hc⟩
 refine ⟨Nat.le_trans h.size hsize,fun b s e=>hshape b s (h.shape b s e),?_,h.ent.trans hρ,fun b e=>hS b (h.s0 b e),?_,?_,?_,hown,hinj,?_,hfree,fun b vs T fz e e'=>hk.same b vs T fz (h.s0 b e) (h.keep b vs T fz e e')⟩
 ·intro b hb hne
  refine (hsame b (Nat.lt_of_lt_of_le hb h.size) (fun hw => ?_)).trans (h.old b hb hne)
  rcases hW b hw with ⟨i,k,h1,h2,h3⟩ | ⟨h1,-⟩
  ·rcases (h.rin i b h3).2 with hj | hge
   ·exact hne hj
   ·omega
  ·rcases h1 with h1 | h1
   ·exact hne h1
   ·omega
 ·intro b hb
  rcases hSn b hb with h1 | h1
  ·exact h.snew b h1
  ·exact .inr h1.1
 ·intro b hb
  rcases hSn b hb with h1 | h1
  ·exact Nat.lt_of_lt_of_le (h.sin b h1) hsize
  ·exact h1.2
 ·intro i b hb
  rcases hρn i b hb with ⟨j,h1⟩ | h1
  ·exact ⟨Nat.lt_of_lt_of_le (h.rin j b h1).1 hsize,(h.rin j b h1).2⟩
  ·exact ⟨h1.2,.inr (Nat.le_trans h.size h1.1)⟩
 ·intro i k hi
  rcases hblk i k hi with ⟨h1,h2⟩ | h1
  ·have hb:=h.blk i k h1
   cases hr:ρ' i with
   | none =>
    have hr0:ρ i=none:=by cases hq:ρ i with | none=>rfl | some b=>rw [hρ i b hq] at hr; cases hr
    rw [hr0] at hb
    exact hb.mono hk hS hρ (fun n e=>by cases e)
   | some b =>
    obtain ⟨e1,e2⟩:=h2 b hr
    rw [e1] at hb
    exact hb.mono hk hS hρ (fun n e=>by cases e; exact hsame b (h.rin i b e1).1 e2)
  ·exact h1
theorem shape?_of_heap {w w':World} {b:Nat} (h:w'.heap[b]? = w.heap[b]?):w'.shape? b=w.shape? b:=by simp [World.shape?,h]
theorem shape?_lt {w:World} {b:Nat} {s:TypeId × Nat} (h:w.shape? b=some s):b<w.heap.size:=by
 rcases Nat.lt_or_ge b w.heap.size with h' | h'
 ·exact h'
 ·simp [World.shape?,Array.getElem?_eq_none h'] at h
theorem shape?_not {w:World} {b:Nat} {t:TypeId × Nat} (h:w.shape? b=some t) (hc:∀ vs T fz,w.heap[b]? ≠ some (.cells vs T fz)):False:=by
 unfold World.shape? at h
 split at h
 ·rename_i c T fz hcc; exact absurd hcc (hc _ _ _)
 ·cases h
theorem shape?_keep {w w':World} {b:Nat} {t:TypeId × Nat} (h:w'.shape? b=w.shape? b) (e:w.shape? b=some t):w'.shape? b=some t:=h.trans e
theorem heap_alloc_lt {w:World} {o:Obj} {b:Nat} (h:b<w.heap.size):(w.alloc o).heap[b]? = w.heap[b]? := by
 simp only [World.alloc,Array.getElem?_push]; rw [if_neg (by omega)]
theorem heap_alloc_at {w:World} {o:Obj} : (w.alloc o).heap[w.heap.size]? = some o:=World.alloc_heap_new w o
theorem Mem.drew {C:Ctx} {ρ:Names} {S:Nat→Prop} {H:Nat→Option Blk} {nx:Nat→Prop} {w:World} (h:Mem C ρ S H nx w):Mem C ρ S H nx w.drew :=
 ⟨h.size,h.shape,h.old,h.ent,h.s0,h.snew,h.sin,h.rin,h.own,h.inj,fun i k hi=>(h.blk i k hi).mono ⟨Nat.le_refl _,fun _ _ e=>e,fun _ _ _ _ _ e=>e⟩ (fun _ e=>e) (Names.le.refl _) (fun _ _=>rfl),h.free,h.keep⟩
theorem Kept.drew (S:Nat→Prop) (w:World):Kept S w w.drew:=⟨Nat.le_refl _,fun _ _ e=>e,fun _ _ _ _ _ e=>e⟩
theorem Rep.drew {C:Ctx} {N:Nat} {ρ:Names} {S:Nat→Prop} {A:Nat→AV} {H:Nat→Option Blk} {nx:Nat→Prop} {a:Act} {w:World} (h:Rep C N ρ S A H nx a w):Rep C N ρ S A H nx a w.drew :=
 ⟨h.mem.drew,h.size,fun t v e=>(h.slots t v e).mono (Kept.drew S w) (fun _ e=>e) (Names.le.refl _),h.marks.keep (fun _ e=>e),h.dk⟩
theorem Rep.frame {C:Ctx} {N:Nat} {ρ ρ':Names} {S S':Nat→Prop} {A:Nat→AV} {H H':Nat→Option Blk} {nx nx':Nat→Prop} {a:Act} {w w':World} (h:Rep C N ρ S A H nx a w) (hm:Mem C ρ' S' H' nx' w')
  (hk:Kept S w w') (hS:∀ b,S b→S' b) (hρ:ρ.le ρ')
  (hmk:∀ n:Nat,w.heap[n]? = some (.deferred (some []))→w'.heap[n]? = some (.deferred (some []))):Rep C N ρ' S' A H' nx' a w' :=
 ⟨hm,h.size,fun t v e=>(h.slots t v e).mono hk hS hρ,h.marks.keep hmk,fun n e=>hmk n (h.dk n e)⟩
theorem Mem.alloc {C:Ctx} {ρ:Names} {S:Nat→Prop} {H:Nat→Option Blk} {nx:Nat→Prop} {w:World} (h:Mem C ρ S H nx w) {i:Nat} (hi:nx i) {k:Blk} {vs:Array Value} {T:TypeId}
  (hb:BlkRel S (w.alloc (.cells vs T)) (updN ρ i w.heap.size) (some w.heap.size) k):Mem C (updN ρ i w.heap.size) S (updH H i k) (lessOne nx i) (w.alloc (.cells vs T)):=by
 obtain ⟨hHi,hρi⟩:=h.free i hi
 have hle:ρ.le (updN ρ i w.heap.size):=fun j b e=>by
  by_cases hj:j=i
  ·subst hj; rw [hρi] at e; cases e
  ·simp [updN,hj,e]
 refine h.step (fun _=>False) (by simp) (shp_all ⟨rfl,rfl⟩ fun b s e => ?_) (fun b hb _=>heap_alloc_lt hb) (fun _ e=>e.elim) hle ?_ (fun _ e=>e) (fun _ e=>.inl e) ?_ ?_ ?_ ?_
 ·exact shape?_keep (shape?_of_heap (heap_alloc_lt (shape?_lt e))) e
 ·intro j b e
  by_cases hj:j=i
  ·subst hj; simp [updN] at e; subst e; exact .inr ⟨Nat.le_refl _,by simp⟩
  ·simp [updN,hj] at e; exact .inl ⟨_,e⟩
 ·intro j l e
  by_cases hj:j=i
  ·subst hj; simp [updH] at e; subst e; simp only [updN,if_true]; exact .inr hb
  ·simp [updH,hj] at e
   exact .inl ⟨e,fun b e'=>by simp [updN,hj] at e'; exact ⟨e',fun x=>x⟩⟩
 ·intro j l b e hl e' hs
  by_cases hj:j=i
  ·subst hj; simp [updN] at e'; subst e'; exact Nat.lt_irrefl _ (h.sin _ hs)
  ·simp [updH,hj] at e; simp [updN,hj] at e'; exact h.own j l b e hl e' hs
 ·intro j1 j2 l1 l2 b e1 hl1 e2 hl2 r1 r2
  by_cases h1:j1=i <;> by_cases h2:j2=i
  ·rw [h1,h2]
  ·subst h1; simp [updN] at r1; simp [updN,h2] at r2; subst r1; exact absurd (h.rin _ _ r2).1 (Nat.lt_irrefl _)
  ·subst h2; simp [updN] at r2; simp [updN,h1] at r1; subst r2; exact absurd (h.rin _ _ r1).1 (Nat.lt_irrefl _)
  ·simp [updH,h1] at e1; simp [updH,h2] at e2; simp [updN,h1] at r1; simp [updN,h2] at r2
   exact h.inj j1 j2 l1 l2 b e1 hl1 e2 hl2 r1 r2
 ·rintro j ⟨hj,hne⟩
  simp [updH,updN,hne,h.free j hj]
theorem Kept.alloc {S:Nat→Prop} {w:World} (hs:∀ b,S b→b<w.heap.size) (o:Obj):Kept S w (w.alloc o) :=
 .of (by simp) (shp_all ⟨rfl,rfl⟩ fun b s e=>shape?_keep (shape?_of_heap (heap_alloc_lt (shape?_lt e))) e) (fun b hb=>heap_alloc_lt (hs b hb))
theorem updN_le {ρ:Names} {i b:Nat} (h:ρ i=none):ρ.le (updN ρ i b):=fun j c e=>by
 by_cases hj:j=i
 ·subst hj; rw [h] at e; cases e
 ·simp [updN,hj,e]
theorem Rep.alloc {C:Ctx} {N:Nat} {ρ:Names} {S:Nat→Prop} {A:Nat→AV} {H:Nat→Option Blk} {nx:Nat→Prop} {a:Act} {w:World} (h:Rep C N ρ S A H nx a w) {i:Nat} (hi:nx i) {k:Blk} {vs:Array Value} {T:TypeId}
  (hb:BlkRel S (w.alloc (.cells vs T)) (updN ρ i w.heap.size) (some w.heap.size) k) :
  Rep C N (updN ρ i w.heap.size) S A (updH H i k) (lessOne nx i) a (w.alloc (.cells vs T)) :=
 h.frame (h.mem.alloc hi hb) (Kept.alloc h.mem.sin _) (fun _ e=>e) (updN_le (h.mem.free i hi).2)
  (fun n e=>by rw [heap_alloc_lt ((Array.getElem?_eq_some_iff.1 e).1)]; exact e)
theorem Mem.store {C:Ctx} {ρ:Names} {S:Nat→Prop} {H:Nat→Option Blk} {nx:Nat→Prop} {w w':World} (h:Mem C ρ S H nx w) {i b:Nat} {k k':Blk} (hi:H i=some k) (hl:k.live=true) (hr:ρ i=some b)
  (hsize:w'.heap.size=w.heap.size) (hsame:∀ c,c≠b→w'.heap[c]? = w.heap[c]?) (hshape:w'.shape? b=w.shape? b) (hb:BlkRel S w' ρ (some b) k') (hio:w'.os=w.os∧w'.output=w.output):Mem C ρ S (updH H i k') nx w':=by
 refine h.step (fun c=>c=b) (by omega) (shp_all hio fun c s e => ?_) (fun c _ hc=>hsame c hc) (fun c e=>.inl ⟨i,k,hi,hl,e ▸ hr⟩) (Names.le.refl _) (fun _ _ e=>.inl ⟨_,e⟩) (fun _ e=>e) (fun _ e=>.inl e) ?_ ?_ ?_ ?_
 ·by_cases hc:c=b
  ·subst hc; exact shape?_keep hshape e
  ·exact shape?_keep (shape?_of_heap (hsame c hc)) e
 ·intro j l e
  by_cases hj:j=i
  ·subst hj; simp [updH] at e; subst e; rw [hr]; exact .inr hb
  ·simp [updH,hj] at e
   by_cases hll:l.live=true
   ·exact .inl ⟨e,fun c e'=>⟨e',fun ec=>hj (h.inj j i l k b e hll hi hl (ec ▸ e') hr)⟩⟩
   ·refine .inr ?_
    cases l with
    | dead=>trivial
    | _=>simp [Blk.live] at hll
 ·intro j l c e hll e' hs
  by_cases hj:j=i
  ·subst hj; exact h.own j k c hi hl e' hs
  ·simp [updH,hj] at e; exact h.own j l c e hll e' hs
 ·intro j1 j2 l1 l2 c e1 hl1 e2 hl2 r1 r2
  have key:∀ j l,updH H i k' j=some l→l.live=true → ∃ l',H j=some l'∧l'.live=true:=fun j l e hl'=>by
   by_cases hj:j=i
   ·subst hj; exact ⟨k,hi,hl⟩
   ·simp [updH,hj] at e; exact ⟨l,e,hl'⟩
  obtain ⟨m1,f1,g1⟩:=key j1 l1 e1 hl1
  obtain ⟨m2,f2,g2⟩:=key j2 l2 e2 hl2
  exact h.inj j1 j2 m1 m2 c f1 g1 f2 g2 r1 r2
 ·intro j hj
  have hne:j≠i:=fun e=>by subst e; rw [(h.free j hj).1] at hi; cases hi
  simp [updH,hne,h.free j hj]
theorem Kept.store {S:Nat→Prop} {w w':World} {b:Nat} (hS:¬ S b) (hsize:w'.heap.size=w.heap.size) (hsame:∀ c,c≠b→w'.heap[c]? = w.heap[c]?) (hshape:w'.shape? b=w.shape? b) (hio:w'.os=w.os∧w'.output=w.output):Kept S w w' :=
 .of (by omega) (shp_all hio fun c s e=>by
  by_cases hc:c=b
  ·subst hc; exact shape?_keep hshape e
  ·exact shape?_keep (shape?_of_heap (hsame c hc)) e) (fun c hc=>hsame c (fun e=>hS (e ▸ hc)))
theorem Rep.store {C:Ctx} {N:Nat} {ρ:Names} {S:Nat→Prop} {A:Nat→AV} {H:Nat→Option Blk} {nx:Nat→Prop} {a:Act} {w w':World} (h:Rep C N ρ S A H nx a w) {i b:Nat} {k k':Blk} (hi:H i=some k) (hl:k.live=true) (hr:ρ i=some b)
  (hsize:w'.heap.size=w.heap.size) (hsame:∀ c,c≠b→w'.heap[c]? = w.heap[c]?) (hshape:w'.shape? b=w.shape? b) (hb:BlkRel S w' ρ (some b) k')
  (hcell : ∃ vs T,w.heap[b]? = some (.cells vs T (0,0))) (hio:w'.os=w.os∧w'.output=w.output):Rep C N ρ S A (updH H i k') nx a w' :=
 h.frame (h.mem.store hi hl hr hsize hsame hshape hb hio) (Kept.store (h.mem.own i k b hi hl hr) hsize hsame hshape hio) (fun _ e=>e) (Names.le.refl _)
  (fun n e=>by
   by_cases hn:n=b
   ·subst hn; obtain ⟨vs,T,hv⟩:=hcell; rw [hv] at e; cases e
   ·rw [hsame n hn]; exact e)
theorem Mem.kill {C:Ctx} {ρ:Names} {S:Nat→Prop} {H:Nat→Option Blk} {nx:Nat→Prop} {w:World} (h:Mem C ρ S H nx w) {i:Nat} {k:Blk} (hi:H i=some k):Mem C ρ S (updH H i .dead) nx w:=by
 refine h.step (fun _=>False) (Nat.le_refl _) (fun _ _ e=>e) (fun _ _ _=>rfl) (fun _ e=>e.elim) (Names.le.refl _) (fun _ _ e=>.inl ⟨_,e⟩) (fun _ e=>e) (fun _ e=>.inl e) ?_ ?_ ?_ ?_
 ·intro j l e
  by_cases hj:j=i
  ·subst hj; simp [updH] at e; subst e; exact .inr trivial
  ·simp [updH,hj] at e; exact .inl ⟨e,fun b e'=>⟨e',fun x=>x⟩⟩
 ·intro j l c e hll e' hs
  by_cases hj:j=i
  ·subst hj; simp [updH] at e; subst e; simp [Blk.live] at hll
  ·simp [updH,hj] at e; exact h.own j l c e hll e' hs
 ·intro j1 j2 l1 l2 c e1 hl1 e2 hl2 r1 r2
  by_cases h1:j1=i
  ·subst h1; simp [updH] at e1; subst e1; simp [Blk.live] at hl1
  ·by_cases h2:j2=i
   ·subst h2; simp [updH] at e2; subst e2; simp [Blk.live] at hl2
   ·simp [updH,h1] at e1; simp [updH,h2] at e2
    exact h.inj j1 j2 l1 l2 c e1 hl1 e2 hl2 r1 r2
 ·intro j hj
  have hne:j≠i:=fun e=>by subst e; rw [(h.free j hj).1] at hi; cases hi
  simp [updH,hne,h.free j hj]
theorem Mem.turn {C:Ctx} {ρ:Names} {S:Nat→Prop} {H:Nat→Option Blk} {nx:Nat→Prop} {w w':World} {n:Nat} (h:Mem C ρ S H nx w) (hn:C.O n∨C.w0.heap.size≤n) (hc:∀ vs T fz,w.heap[n]? ≠ some (.cells vs T fz))
  (hsize:w'.heap.size=w.heap.size) (hsame:∀ c,c≠n→w'.heap[c]? = w.heap[c]?) (hio:w'.os=w.os∧w'.output=w.output):Mem C ρ S H nx w'∧Kept S w w':=by
 have hsh:∀ b s,shp w b=some s→shp w' b=some s:=shp_all hio fun b s e=>by
  by_cases hb:b=n
  ·subst hb; exact (shape?_not e hc).elim
  ·exact shape?_keep (shape?_of_heap (hsame b hb)) e
 refine ⟨h.step (fun c=>c=n) (by omega) hsh (fun b _ hb=>hsame b hb) (fun b e=>.inr ⟨e ▸ hn,e ▸ hc⟩) (Names.le.refl _) (fun i b e=>.inl ⟨i,e⟩) (fun _ e=>e) (fun _ e=>.inl e) (fun i k e => ?_) h.own h.inj h.free,
  by omega,hsh,fun b vs T fz _ e => ?_⟩
 ·by_cases hl:k.live=true
  ·cases hr:ρ i with
   | none=>exact .inl ⟨e,fun b e'=>by cases e'⟩
   | some b =>
    refine .inl ⟨e,fun b' e'=>⟨e',fun eb => ?_⟩⟩
    cases e'
    have hb:=h.blk i k e
    rw [hr] at hb
    cases k with
    | dead=>cases hl
    | cells cs=>obtain ⟨m,vs,T,h1,h2,-⟩:=hb; cases h1; exact hc vs T _ (eb ▸ h2)
    | row sz xs =>
     obtain ⟨-,-,hb⟩:=hb
     rcases hb with ⟨h1,-⟩ | ⟨m,vs,T,h1,h2,-⟩
     ·cases h1
     ·cases h1; exact hc vs T _ (eb ▸ h2)
  ·refine .inr ?_
   cases k with
   | dead=>trivial
   | _=>simp [Blk.live] at hl
 ·by_cases hb:b=n
  ·subst hb; exact absurd e (hc _ _ _)
  ·rw [hsame b hb]; exact e
end Go.Proofs.Ytoncoofmijjgeaa.Sep
namespace Go.Proofs.Ytoncoofmijjgeaa.Sep
open Go
set_option linter.unusedVariables false
set_option linter.unusedSimpArgs false
structure Ty where
 kind:Nat
 size:Nat
 bytes:Nat
 zero:List AV
 len:Nat
 elem:TypeId
 offs:List (Nat × TypeId)
 ik:IntKind:=.i64
def tyOf (P:Program) (T:TypeId):Option Ty :=
 match P.info? T,P.underlying T with
 | some i,some d =>
  match i.zero with
  | some z =>
   match d with
   | .struct fs=>some { kind:=1,size:=i.size,bytes:=i.bytes,zero:=z.cells.toList.map .lit,len:=0,elem:=0,offs:=fs.toList.map fun f=>(f.offset,f.type) }
   | .array n e=>some { kind:=2,size:=i.size,bytes:=i.bytes,zero:=z.cells.toList.map .lit,len:=n,elem:=e,offs:=[] }
   | .slice e=>some { kind:=3,size:=i.size,bytes:=i.bytes,zero:=z.cells.toList.map .lit,len:=0,elem:=e,offs:=[] }
   | .bool=>some { kind:=4,size:=i.size,bytes:=i.bytes,zero:=z.cells.toList.map .lit,len:=0,elem:=0,offs:=[] }
   | .int k=>some { kind:=5,size:=i.size,bytes:=i.bytes,zero:=z.cells.toList.map .lit,len:=0,elem:=0,offs:=[],ik:=k }
   | .string=>some { kind:=6,size:=i.size,bytes:=i.bytes,zero:=z.cells.toList.map .lit,len:=0,elem:=0,offs:=[] }
   | _=>some { kind:=0,size:=i.size,bytes:=i.bytes,zero:=z.cells.toList.map .lit,len:=0,elem:=0,offs:=[] }
  | none=>none
 | _,_=>none
def Ty.agg (t:Ty):Bool:=t.kind == 1 || t.kind == 2
section ty
variable {P : Program} {T : TypeId} {t : Ty} (h : tyOf P T = some t) (w : World)
include h
theorem tyOf_inv : ∃ i d z,P.info? T=some i∧P.underlying T=some d∧i.zero=some z∧t.size=i.size∧t.bytes=i.bytes∧t.zero=z.cells.toList.map .lit ∧
  t.agg=(match d with | .struct _ | .array _ _=>true | _=>false) ∧
  (t.kind=1 → ∃ fs,d = .struct fs∧t.offs=fs.toList.map fun f=>(f.offset,f.type))∧(t.kind=2→d = .array t.len t.elem)∧(t.kind=3→d = .slice t.elem)∧(t.kind=4→d = .bool)∧(t.kind=5→d = .int t.ik)∧(t.kind=6→d = .string):=by
 unfold tyOf at h
 cases hi:P.info? T with
 | none=>simp [hi] at h
 | some i =>
  cases hd:P.underlying T with
  | none=>simp [hi,hd] at h
  | some d =>
   cases hz:i.zero with
   | none=>simp [hi,hd,hz] at h
   | some z=>cases d <;> (simp [hi,hd,hz] at h; subst h; exact ⟨i,_,z,rfl,rfl,hz,rfl,rfl,rfl,by simp [Ty.agg],by simp,by simp,by simp,by simp,by simp,by simp⟩)
theorem run_sizeOf_ty:(sizeOf T).run P w = .ok t.size w:=by
 obtain ⟨i,d,z,hi,hd,hz,hs,-⟩:=tyOf_inv h
 simp [sizeOf,typeInfo,hi,hs]
theorem run_isAgg_ty:(isAgg T).run P w = .ok t.agg w:=by
 obtain ⟨i,d,z,hi,hd,hz,hs,hb,hzz,ha,-⟩:=tyOf_inv h
 rw [ha]
 cases d <;> simp [isAgg,run_underlying hd]
theorem run_zeroValue_ty : ∃ z,(zeroValue T).run P w = .ok z w∧t.zero=z.cells.toList.map .lit:=by
 obtain ⟨i,d,z,hi,hd,hz,hs,hb,hzz,-⟩:=tyOf_inv h
 exact ⟨z,by simp [zeroValue,typeInfo,hi,hz],hzz⟩
theorem cellsOf_ty:P.cellsOf T=t.size:=by
 obtain ⟨i,d,z,hi,hd,hz,hs,-⟩:=tyOf_inv h
 simp [Program.cellsOf,hi,hs]
end ty
def strip:AV→AV
 | .when _ y=>y
 | x=>x
def grd:AV→Bool
 | .when g _=>g
 | _=>true
def AV.scalar:AV→Bool
 | .lit v=>v.oneCell'
 | .ptr .. | .rptr .. | .vec .. | .vsl .. | .vptr .. | .fn .. => true
 | _=>false
def AV.closed:AV→Bool
 | .lit _ | .vsl .. | .vptr .. => true
 | _=>false
def cellsOf? : AV→Option (List AV)
 | .agg cs=>some cs
 | .lit (.agg vs)=>some (vs.toList.map .lit)
 | .lit (.tuple _)=>none
 | .lit v=>some [.lit v]
 | .ptr i o=>some [.ptr i o]
 | .rptr i s n j=>some [.rptr i s n j]
 | .vec i s l n=>some [.vec i s l n]
 | .vsl s xs=>some [.vsl s xs]
 | .vptr s xs n j=>some [.vptr s xs n j]
 | .fn f xs cs=>some [.fn f xs cs]
 | _=>none
def splice (cs:List AV) (off:Nat) (new:List AV):List AV:=cs.take off ++ new ++ cs.drop (off+new.length)
def mkIf (b:Bool):AV→AV→Option AV
 | .lit (.bool p),.lit (.bool q)=>some (.lit (.bool (bif b then p else q)))
 | .lit (.int k p),.lit (.int k' q)=>if k=k' then some (.lit (.int k (bif b then p else q))) else none
 | _,_=>none
def intBin (op:BinOp) (k:IntKind) (a b:Int):Option (Prop × Value) :=
 match op with
 | .add=>some (True,.int k (k.wrap (a+b)))
 | .sub=>some (True,.int k (k.wrap (a-b)))
 | .mul=>some (True,.int k (k.wrap (a*b)))
 | .quo=>some (b≠0,.int k (k.wrap (a.tdiv b)))
 | .rem=>some (b≠0,.int k (a.tmod b))
 | .and=>some (True,.int k (k.wrap (BitVec.ofInt k.bits a &&& BitVec.ofInt k.bits b).toNat))
 | .or=>some (True,.int k (k.wrap (BitVec.ofInt k.bits a ||| BitVec.ofInt k.bits b).toNat))
 | .xor=>some (True,.int k (k.wrap (BitVec.ofInt k.bits a ^^^ BitVec.ofInt k.bits b).toNat))
 | .eql=>some (True,.bool (a == b))
 | .neq=>some (True,.bool (a != b))
 | .lss=>some (True,.bool (decide (a<b)))
 | .leq=>some (True,.bool (decide (a≤b)))
 | .gtr=>some (True,.bool (decide (a > b)))
 | .geq=>some (True,.bool (decide (a≥b)))
 | _=>none
def eqVs:List Nat→List Value→List Value→Option Bool
 | [],[],[]=>some true
 | 5 :: ks,.int k a :: xs,.int k' b :: ys=>if k=k' then (eqVs ks xs ys).map fun r=>(a == b) && r else none
 | 4 :: ks,.bool a :: xs,.bool b :: ys=>(eqVs ks xs ys).map fun r=>(a == b) && r
 | 6 :: ks,.string a :: xs,.string b :: ys=>(eqVs ks xs ys).map fun r=>(a == b) && r
 | _,_,_=>none
def litsOf:List AV→Option (List Value)
 | []=>some []
 | .lit v :: xs=>(litsOf xs).map (v :: ·)
 | _=>none
def EqOK (P:Program) (T:TypeId) (ks:List Nat):Prop :=
 P.eqGuardType P.depth T=false∧∀ (w:World) (xs ys:List Value) (r:Bool),eqVs ks xs ys=some r→(Op.equal T (.agg xs.toArray) (.agg ys.toArray)).run P w = .ok r w
def kindOf:Value→Nat
 | .bool _=>4
 | .int _ _=>5
 | .string _=>6
 | _=>0
structure Out where
 cond:Prop
 val:AV
 ri:List Nat:=[]
 wr:List (Nat × Blk):=[]
def nilEq (P:Program) (T:TypeId):AV→AV→Option (Prop × Bool)
 | .vsl _ xs,.lit (.slice none 0 0)=>match P.underlying T with
  | some (.slice _)=>some (0<xs.length,false)
  | _=>none
 | .vec _ _ _ n,.lit (.slice none 0 0)=>match P.underlying T with
  | some (.slice _)=>some (0<n,false)
  | _=>none
 | .lit (.slice a _ _),.lit (.slice none 0 0)=>match P.underlying T with
  | some (.slice _)=>some (True,a.isNone)
  | _=>none
 | .ptr _ _,.lit (.pointer none)=>match P.underlying T with
  | some (.pointer _)=>some (True,false)
  | _=>none
 | .rptr _ _ _ _,.lit (.pointer none)=>match P.underlying T with
  | some (.pointer _)=>some (True,false)
  | _=>none
 | .vptr _ _ _ _,.lit (.pointer none)=>match P.underlying T with
  | some (.pointer _)=>some (True,false)
  | _=>none
 | .lit (.pointer none),.lit (.pointer none)=>match P.underlying T with
  | some (.pointer _)=>some (True,true)
  | _=>none
 | _,_=>none
def nilAbs (P:Program) (op:BinOp) (T:TypeId) (x y:AV):Option (Prop × AV) :=
 match nilEq P T x y,op with
 | some (c,b),.eql=>some (c,.lit (.bool b))
 | some (c,b),.neq=>some (c,.lit (.bool (!b)))
 | _,_=>none
def binAbs (P:Program) (op:BinOp) (T:TypeId):AV→AV→Option (Prop × AV)
 | .lit (.int k a),.lit (.int k' b) =>
  match op with
  | .shl=>some (0≤b,.lit (.int k (k.wrap (a*2 ^ (min b.toNat k.bits)))))
  | .shr=>some (0≤b,.lit (.int k (a.fdiv (2 ^ (min b.toNat k.bits)))))
  | op=>if k=k' then (intBin op k a b).map fun r=>(r.1,.lit r.2) else none
 | .lit (.bool a),.lit (.bool b) =>
  match tyOf P T with
  | some t=>if t.kind=4 then
    match op with
    | .eql=>some (True,.lit (.bool (a == b)))
    | .neq=>some (True,.lit (.bool (!(a == b))))
    | _=>none
   else none
  | none=>none
 | .agg xs,.agg ys =>
  match litsOf xs,litsOf ys with
  | some us,some vs =>
   match eqVs (us.map kindOf) us vs,op with
   | some r,.eql=>some (EqOK P T (us.map kindOf),.lit (.bool r))
   | some r,.neq=>some (EqOK P T (us.map kindOf),.lit (.bool (!r)))
   | _,_=>none
  | _,_=>none
 | x,y=>nilAbs P op T x y
end Go.Proofs.Ytoncoofmijjgeaa.Sep
namespace Go.Proofs.Ytoncoofmijjgeaa.Sep
open Go
set_option linter.unusedVariables false
set_option linter.unusedSimpArgs false
section inv
variable {S : Nat → Prop} {w : World} {ρ : Names} {v : Value}
theorem Rel.lit_inv {u:Value} (h:Rel S w ρ (.lit u) v):v=u:=by cases h; rfl
theorem Rel.ptr_inv {i off:Nat} (h:Rel S w ρ (.ptr i off) v) : ∃ b,ρ i=some b∧v = .pointer (some ⟨b,off,none⟩):=by cases h with | ptr h=>exact ⟨_,h,rfl⟩
theorem Rel.rptr_inv {i sz n j:Nat} (h:Rel S w ρ (.rptr i sz n j) v) : ∃ b,ρ i=some b∧v = .pointer (some ⟨b,n*sz+j,none⟩):=by cases h with | rptr h=>exact ⟨_,h,rfl⟩
theorem Rel.agg_inv {cs:List AV} (h:Rel S w ρ (.agg cs) v) : ∃ vs:Array Value,v = .agg vs∧vs.size=cs.length∧∀ (k:Nat) c u,cs[k]? = some c→vs[k]? = some u→Rel S w ρ c u:=by cases h with | agg hl h=>exact ⟨_,rfl,hl,h⟩
theorem Rel.tup_inv {cs:List AV} (h:Rel S w ρ (.tup cs) v) : ∃ vs:Array Value,v = .tuple vs∧vs.size=cs.length∧∀ (k:Nat) c u,cs[k]? = some c→vs[k]? = some u→Rel S w ρ c u:=by cases h with | tup hl h=>exact ⟨_,rfl,hl,h⟩
theorem Rel.vptr_inv {sz n j:Nat} {xs:List (List AV)} (h:Rel S w ρ (.vptr sz xs n j) v) : ∃ b off,v = .pointer (some ⟨b,off+n*sz+j,none⟩)∧S b∧(∀ (k:Nat) cs,xs[k]? = some cs→cs.length=sz) ∧
  ∃ vs:Nat→Nat→Value,(∀ (k j:Nat) cs c,xs[k]? = some cs→cs[j]? = some c→w.cell? ⟨b,off+k*sz+j,none⟩=some (vs k j))∧(∀ (k j:Nat) cs c,xs[k]? = some cs→cs[j]? = some c→Rel S w noNames c (vs k j)):=by
 cases h with | vptr vs hS hz hv hr=>exact ⟨_,_,rfl,hS,hz,vs,hv,hr⟩
theorem Rel.vsl_inv {sz:Nat} {xs:List (List AV)} (h:Rel S w ρ (.vsl sz xs) v) : ∃ a cap,v = .slice a xs.length cap∧(0<xs.length → ∃ b off,a=some ⟨b,off,none⟩∧S b∧xs.length≤cap∧(∀ (k:Nat) cs,xs[k]? = some cs→cs.length=sz) ∧
  ∃ vs:Nat→Nat→Value,(∀ (k j:Nat) cs c,xs[k]? = some cs→cs[j]? = some c→w.cell? ⟨b,off+k*sz+j,none⟩=some (vs k j))∧(∀ (k j:Nat) cs c,xs[k]? = some cs→cs[j]? = some c→Rel S w noNames c (vs k j))):=by
 cases h with
 | vslNil=>exact ⟨_,_,rfl,fun h=>by simp at h⟩
 | vsl vs hc hS hz hv hr=>exact ⟨_,_,rfl,fun _=>⟨_,_,rfl,hS,hc,hz,vs,hv,hr⟩⟩
theorem Rel.vec_inv {i sz lo len:Nat} (h:Rel S w ρ (.vec i sz lo len) v):(∃ a,v = .slice a 0 0∧len=0) ∨ ∃ b T n cap,ρ i=some b∧w.shape? b=some (T,n)∧lo*sz+cap*sz≤n∧(len≤cap∧cap≤9223372036854775807)∧v = .slice (some ⟨b,lo*sz,none⟩) len cap:=by
 cases h with
 | vec0=>exact .inl ⟨_,rfl,rfl⟩
 | vec h hs hc hl=>exact .inr ⟨_,_,_,_,h,hs,hc,hl,rfl⟩
theorem Rel.when_inv {g:Bool} {x:AV} (h:Rel S w ρ (.when g x) v) (hg:g=true):Rel S w ρ x v:=by cases h with | when h _=>exact h hg
theorem Rel.fn_inv {f:Fn} {xs cs:List AV} (h:Rel S w ρ (.fn f xs cs) v) : ∃ ys vs:Array Value,v = .func f ys vs∧ys.size=xs.length∧(∀ (k:Nat) c v,xs[k]? = some c→ys[k]? = some v→Rel S w ρ c v)∧vs.size=cs.length∧(∀ (k:Nat) c v,cs[k]? = some c→vs[k]? = some v→Rel S w ρ c v):=by
 cases h with | fn hl h hl' h'=>exact ⟨_,_,rfl,hl,h,hl',h'⟩
theorem Rel.strip {x:AV} (h:Rel S w ρ x v) (hg:grd x=true):Rel S w ρ (strip x) v:=by
 cases x <;> first | exact h | exact h.when_inv hg
theorem Rel.up {x:AV} (h:Rel S w noNames x v):Rel S w ρ x v:=h.mono (Kept.refl S w) (fun _ e=>e) (fun _ _ e=>by cases e)
theorem Rel.closed {x:AV} (h:Rel S w ρ x v) (hc:x.closed=true):Rel S w noNames x v:=by
 cases h <;> first | (simp [AV.closed] at hc; done) | skip
 case lit=>exact .lit _
 case vslNil=>exact .vslNil
 case vsl vs hc' hS hz hv hr=>exact .vsl vs hc' hS hz hv hr
 case vptr vs hS hz hv hr=>exact .vptr vs hS hz hv hr
theorem Rel.oneCell {x:AV} (h:Rel S w ρ x v) (hc:x.scalar=true):v.oneCell'=true:=by
 cases h <;> first | (simp [AV.scalar] at hc; done) | rfl | skip
 case lit=>simpa [AV.scalar] using hc
end inv
def RelCs (S:Nat→Prop) (w:World) (ρ:Names) (cs:List AV) (vs:Array Value):Prop:=vs.size=cs.length∧∀ (k:Nat) c v,cs[k]? = some c→vs[k]? = some v→Rel S w ρ c v
theorem RelCs.at {S:Nat→Prop} {w:World} {ρ:Names} {cs:List AV} {vs:Array Value} (h:RelCs S w ρ cs vs) {k:Nat} (hk:k<cs.length) : ∃ v,vs[k]? = some v∧Rel S w ρ (cs.getD k .top) v:=by
 have hk':k<vs.size:=by rw [h.1]; exact hk
 refine ⟨vs[k],by simp [hk'],?_⟩
 exact h.2 k _ _ (by simp [List.getD,hk]) (by simp [hk'])
theorem RelCs.mono {S S':Nat→Prop} {w w':World} {ρ ρ':Names} {cs:List AV} {vs:Array Value} (h:RelCs S w ρ cs vs) (hk:Kept S w w') (hS:∀ b,S b→S' b) (hρ:ρ.le ρ'):RelCs S' w' ρ' cs vs :=
 ⟨h.1,fun k c v h1 h2=>(h.2 k c v h1 h2).mono hk hS hρ⟩
theorem cells_rel {S:Nat→Prop} {w:World} {ρ:Names} {x:AV} {v:Value} {cs:List AV} (h:Rel S w ρ x v) (hc:cellsOf? x=some cs):RelCs S w ρ cs v.cells:=by
 have one:∀ y:AV,Rel S w ρ y v→v.cells = #[v]→RelCs S w ρ [y] v.cells:=fun y hy e=>by
  rw [e]
  refine ⟨rfl,fun k c u h1 h2 => ?_⟩
  cases k with
  | zero=>simp at h1 h2; subst h1; subst h2; exact hy
  | succ k=>simp at h1
 cases x with
 | top=>simp [cellsOf?] at hc
 | tup cs=>simp [cellsOf?] at hc
 | when g x=>simp [cellsOf?] at hc
 | agg cs' =>
  simp [cellsOf?] at hc; subst hc
  obtain ⟨vs,rfl,hl,hr⟩:=h.agg_inv
  exact ⟨hl,hr⟩
 | lit u =>
  obtain rfl:=h.lit_inv
  cases v <;> first
   | (simp only [cellsOf?,Option.some.injEq] at hc; subst hc; exact one _ h rfl)
   | skip
  case agg vs =>
   simp only [cellsOf?,Option.some.injEq] at hc; subst hc
   refine ⟨by simp [Value.cells],fun k c u h1 h2 => ?_⟩
   simp [Value.cells] at h1 h2
   obtain ⟨x,hx,rfl⟩:=h1
   rw [h2] at hx; cases hx; exact .lit _
  case tuple vs=>simp [cellsOf?] at hc
 | ptr i o=>simp [cellsOf?] at hc; subst hc; obtain ⟨b,hb,rfl⟩:=h.ptr_inv; exact one _ h rfl
 | rptr i s n j=>simp [cellsOf?] at hc; subst hc; obtain ⟨b,hb,rfl⟩:=h.rptr_inv; exact one _ h rfl
 | vec i s l n =>
  simp [cellsOf?] at hc; subst hc
  rcases h.vec_inv with ⟨a,rfl,-⟩ | ⟨b,T,n',cap,-,-,-,-,rfl⟩ <;> exact one _ h rfl
 | vsl s xs=>simp [cellsOf?] at hc; subst hc; obtain ⟨a,cap,rfl,-⟩:=h.vsl_inv; exact one _ h rfl
 | vptr s xs n j=>simp [cellsOf?] at hc; subst hc; obtain ⟨b,off,rfl,-⟩:=h.vptr_inv; exact one _ h rfl
 | fn f xs cs'=>simp [cellsOf?] at hc; subst hc; obtain ⟨ys,vs,rfl,-⟩:=h.fn_inv; exact one _ h rfl
theorem cells_scalar {S:Nat→Prop} {w:World} {ρ:Names} {cs:List AV} {vs:Array Value} (h:RelCs S w ρ cs vs) (hs:cs.all AV.scalar=true):∀ v ∈ vs.toList,v.oneCell'=true:=by
 intro v hv
 obtain ⟨k,hk⟩:=List.mem_iff_getElem?.1 hv
 have hk1:vs[k]? = some v:=by simpa using hk
 have hlt:k<cs.length:=by rw [← h.1]; exact (Array.getElem?_eq_some_iff.1 hk1).1
 have hc:cs[k]? = some cs[k]:=by simp [hlt]
 exact (h.2 k _ _ hc hk1).oneCell (List.all_eq_true.1 hs _ (List.getElem_mem hlt))
def Good (C:Ctx) (ρ:Names) (S:Nat→Prop) (H:Nat→Option Blk) (nx:Nat→Prop) (w:World) (out:Out) (id:Nat) (r:Result Next):Prop :=
 ∃ ρ' v w',(r = .ok (.value v) w'∨(r = .ok .skip w'∧v=undef))∧ρ.le ρ'∧Kept S w w'∧Mem C ρ' S (out.wr.foldl (fun H p=>updH H p.1 p.2) H) (lessOne nx id) w'∧Rel S w' ρ' out.val v ∧
  (∀ n:Nat,w.heap[n]? = some (.deferred (some []))→w'.heap[n]? = some (.deferred (some [])))
theorem Mem.less {C:Ctx} {ρ:Names} {S:Nat→Prop} {H:Nat→Option Blk} {nx nx':Nat→Prop} {w:World} (h:Mem C ρ S H nx w) (hn:∀ i,nx' i→nx i):Mem C ρ S H nx' w :=
 ⟨h.size,h.shape,h.old,h.ent,h.s0,h.snew,h.sin,h.rin,h.own,h.inj,h.blk,fun i hi=>h.free i (hn i hi),h.keep⟩
section
variable {C : Ctx} {ρ : Names} {S : Nat → Prop} {H : Nat → Option Blk} {nx : Nat → Prop} {w : World} {id : Nat} {P : Program}
theorem Good.pure {out:Out} {r:Result Next} {v:Value} (hm:Mem C ρ S H nx w) (hr:r = .ok (.value v) w) (hv:Rel S w ρ out.val v) (hw:out.wr=[]):Good C ρ S H nx w out id r :=
 ⟨ρ,v,w,.inl hr,Names.le.refl _,Kept.refl _ _,by rw [hw]; exact hm.less (fun _ h=>h.1),hv,fun _ e=>e⟩
theorem Good.alloc {out:Out} {r:Result Next} {k:Blk} {vs:Array Value} {T:TypeId} {v:Value} (hm:Mem C ρ S H nx w) (hid:nx id) (hr:r = .ok (.value v) (w.alloc (.cells vs T)))
  (hb:BlkRel S (w.alloc (.cells vs T)) (updN ρ id w.heap.size) (some w.heap.size) k) (hw:out.wr=[(id,k)]) (hv:Rel S (w.alloc (.cells vs T)) (updN ρ id w.heap.size) out.val v):Good C ρ S H nx w out id r :=
 ⟨updN ρ id w.heap.size,v,w.alloc (.cells vs T),.inl hr,updN_le (hm.free id hid).2,Kept.alloc hm.sin _,by rw [hw]; exact hm.alloc hid hb,hv,
  fun n e=>by rw [heap_alloc_lt ((Array.getElem?_eq_some_iff.1 e).1)]; exact e⟩
theorem Good.var {out:Out} {r:Result Next} {cs:List AV} {vs:Array Value} {T:TypeId} (hm:Mem C ρ S H nx w) (hid:nx id) (hr:r = .ok (.value (.pointer (some ⟨w.heap.size,0,none⟩))) (w.alloc (.cells vs T)))
  (hcs:RelCs S w ρ cs vs) (hw:out.wr=[(id,.cells cs)]) (hv:out.val = .ptr id 0):Good C ρ S H nx w out id r:=by
 have hcs':=hcs.mono (Kept.alloc hm.sin (.cells vs T)) (fun _ e=>e) (updN_le (b:=w.heap.size) (hm.free id hid).2)
 refine Good.alloc (k:=.cells cs) hm hid hr ⟨_,vs,T,rfl,heap_alloc_at,hcs.1,hcs'.2⟩ hw ?_
 rw [hv]; exact .ptr (by simp [updN])
end
def absPure (P:Program) (o:Op) (r:Operand→AV):Option (Prop × AV) :=
 match o with
 | .move x | .assign x=>some (grd (r x)=true,strip (r x))
 | .pick c a b =>
  match strip (r c) with
  | .lit (.bool cb)=>(mkIf cb (strip (r a)) (strip (r b))).map fun v=>(grd (r c)=true∧(cb=true→grd (r a)=true)∧(cb=false→grd (r b)=true),v)
  | _=>none
 | .fieldAddr T x f =>
  match tyOf P T with
  | some t =>
   match t.kind,t.offs[f]? with
   | 1,some (o,U) =>
    match tyOf P U with
    | some u =>
     if u.size=0 then none else
     match strip (r x) with
     | .ptr i off=>some (grd (r x)=true,.ptr i (off+o))
     | .rptr i s n j=>some (grd (r x)=true,.rptr i s n (j+o))
     | .vptr s xs n j=>some (grd (r x)=true,.vptr s xs n (j+o))
     | _=>none
    | none=>none
   | _,_=>none
  | none=>none
 | .nilCheck x =>
  match strip (r x) with
  | .ptr i off=>some (grd (r x)=true,.ptr i off)
  | .rptr i s n j=>some (grd (r x)=true,.rptr i s n j)
  | .vptr s xs n j=>some (grd (r x)=true,.vptr s xs n j)
  | .fn (.func f) xs cs=>some (grd (r x)=true,.fn (.func f) xs cs)
  | .lit (.func (.func f) xs cs)=>some (grd (r x)=true,.lit (.func (.func f) xs cs))
  | _=>none
 | .binOp op T x y _=>(binAbs P op T (strip (r x)) (strip (r y))).map fun q=>(grd (r x)=true∧grd (r y)=true∧q.1,q.2)
 | .unOp op _ x =>
  match op,strip (r x) with
  | .neg,.lit (.int k n)=>some (grd (r x)=true,.lit (.int k (k.wrap (0-n))))
  | .not,.lit (.bool b)=>some (grd (r x)=true,.lit (.bool (!b)))
  | _,_=>none
 | .convert S T x =>
  match tyOf P S,tyOf P T,strip (r x) with
  | some _,some t,.lit (.int _ n)=>if t.kind=5 then some (grd (r x)=true,.lit (.int t.ik (t.ik.wrap n))) else none
  | _,_,_=>none
 | .makeFunc f first cap=>some ((∀ x ∈ first,grd (r x)=true)∧(∀ x ∈ cap,grd (r x)=true),.fn f (first.toList.map fun x=>strip (r x)) (cap.toList.map fun x=>strip (r x)))
 | .extract x k =>
  match strip (r x) with
  | .tup cs=>(cs[k]?).map fun c=>(grd (r x)=true,c)
  | _=>none
 | .field T x f =>
  match tyOf P T,strip (r x) with
  | some t,.agg cs =>
   match t.kind,t.offs[f]? with
   | 1,some (o,U) =>
    match tyOf P U with
    | some u=>some (grd (r x)=true∧o+(if u.agg then u.size else 1)≤cs.length,if u.agg then .agg ((cs.drop o).take u.size) else cs.getD o .top)
    | none=>none
   | _,_=>none
  | _,_=>none
 | .index T x i =>
  match tyOf P T,strip (r x),strip (r i) with
  | some t,.agg cs,.lit (.int _ n) =>
   if t.kind=2 then
    match tyOf P t.elem with
    | some e=>some (grd (r x)=true∧grd (r i)=true∧0≤n∧n<t.len∧n.toNat*e.size+(if e.agg then e.size else 1)≤cs.length,if e.agg then .agg ((cs.drop (n.toNat*e.size)).take e.size) else cs.getD (n.toNat*e.size) .top)
    | none=>none
   else none
  | _,_,_=>none
 | .indexAddr T x i =>
  match tyOf P T,strip (r i) with
  | some t,.lit (.int _ n) =>
   match tyOf P t.elem with
   | some e =>
    if t.kind=3 then
     match strip (r x) with
     | .vsl sz xs=>if sz=e.size then some (grd (r x)=true∧grd (r i)=true∧0≤n∧n<xs.length,.vptr sz xs n.toNat 0) else none
     | .vec k sz lo len=>if sz=e.size then some (grd (r x)=true∧grd (r i)=true∧0≤n∧n<len,.rptr k sz (lo+n.toNat) 0) else none
     | _=>none
    else if t.kind=2 then
     match strip (r x) with
     | .ptr k off=>some (grd (r x)=true∧grd (r i)=true∧0≤n∧n<t.len,.ptr k (off+n.toNat*e.size))
     | .rptr k s m j=>some (grd (r x)=true∧grd (r i)=true∧0≤n∧n<t.len,.rptr k s m (j+n.toNat*e.size))
     | .vptr s xs m j=>some (grd (r x)=true∧grd (r i)=true∧0≤n∧n<t.len,.vptr s xs m (j+n.toNat*e.size))
     | _=>none
    else none
   | none=>none
  | _,_=>none
 | .call { callee:=.builtin .len,args,argTypes } =>
  match args.toList,argTypes.toList with
  | [x],[T] =>
   match tyOf P T,strip (r x) with
   | some t,.vsl _ xs=>if t.kind=3 then some (grd (r x)=true,I xs.length) else none
   | some t,.vec _ _ _ len=>if t.kind=3 then some (grd (r x)=true,I len) else none
   | some t,.lit (.slice _ n _)=>if t.kind=3 then some (grd (r x)=true,I n) else none
   | some t,_=>if t.kind=2 then some (grd (r x)=true,I t.len) else none
   | _,_=>none
  | _,_=>none
 | .call { callee:=.builtin .max,args,.. } =>
  match args.toList with
  | [x,y] =>
   match strip (r x),strip (r y) with
   | .lit (.int k a),.lit (.int _ b)=>some (grd (r x)=true∧grd (r y)=true,.lit (.int k (max a b)))
   | _,_=>none
  | [x,y,z] =>
   match strip (r x),strip (r y),strip (r z) with
   | .lit (.int k a),.lit (.int _ b),.lit (.int _ c)=>some (grd (r x)=true∧grd (r y)=true∧grd (r z)=true,.lit (.int k (max (max a b) c)))
   | _,_,_=>none
  | _=>none
 | .call { callee:=.builtin .min,args,.. } =>
  match args.toList with
  | [x,y] =>
   match strip (r x),strip (r y) with
   | .lit (.int k a),.lit (.int _ b)=>some (grd (r x)=true∧grd (r y)=true,.lit (.int k (min a b)))
   | _,_=>none
  | [x,y,z] =>
   match strip (r x),strip (r y),strip (r z) with
   | .lit (.int k a),.lit (.int _ b),.lit (.int _ c)=>some (grd (r x)=true∧grd (r y)=true∧grd (r z)=true,.lit (.int k (min (min a b) c)))
   | _,_,_=>none
  | _=>none
 | _=>none
end Go.Proofs.Ytoncoofmijjgeaa.Sep
namespace Go.Proofs.Ytoncoofmijjgeaa.Sep
open Go
set_option linter.unusedVariables false
set_option linter.unusedSimpArgs false
section
variable {S : Nat → Prop} {ρ : Names} {P : Program} {w : World} {r : Operand → AV} {ev : Operand → Value}
theorem mkIf_rel {b:Bool} {x y z:AV} {u v:Value} (h:mkIf b x y=some z) (hx:b=true→Rel S w ρ x u) (hy:b=false→Rel S w ρ y v):Rel S w ρ z (if b then u else v):=by
 unfold mkIf at h
 split at h
 ·cases h
  cases b
  ·simpa using (hy rfl).lit_inv ▸ Rel.lit _
  ·simpa using (hx rfl).lit_inv ▸ Rel.lit _
 ·split at h
  ·cases h
   rename_i hk; subst hk
   cases b
   ·simpa using (hy rfl).lit_inv ▸ Rel.lit _
   ·simpa using (hx rfl).lit_inv ▸ Rel.lit _
  ·cases h
 ·cases h
theorem add_off (b off n:Nat):(⟨b,off,none⟩:Addr).add n=⟨b,off+n,none⟩:=by
 unfold Addr.add; split <;> simp_all
theorem run_intBin {op:BinOp} {k:IntKind} {a b:Int} {c:Prop} {v:Value} (T:TypeId) (h:intBin op k a b=some (c,v)) (hc:c):(binOp op T (.int k a) (.int k b)).run P w = .ok v w:=by
 cases op <;> simp only [intBin,Option.some.injEq,Prod.mk.injEq,reduceCtorEq] at h <;> first
  | (obtain ⟨rfl,rfl⟩:=h; simp [binOp,Op.intArith,Op.intBits,Op.intCmp]; done)
  | (obtain ⟨rfl,rfl⟩:=h; simp [binOp,Op.intDiv,hc]; done)
theorem eqGuard_int (op:BinOp) (T:TypeId) (x y:Operand) (k k':IntKind) (a b:Int):(eqGuard op T x y (.int k a) (.int k' b)).run P w = .ok () w:=by
 cases op <;> simp [eqGuard]
theorem eqGuard_bool (op:BinOp) (T:TypeId) (x y:Operand) (a b:Bool):(eqGuard op T x y (.bool a) (.bool b)).run P w = .ok () w:=by
 cases op <;> simp [eqGuard]
theorem eqGuard_agg (op:BinOp) (T:TypeId) (x y:Operand) (a b:Array Value) (h:P.eqGuardType P.depth T=false):(eqGuard op T x y (.agg a) (.agg b)).run P w = .ok () w:=by
 cases op <;> simp [eqGuard,h]
theorem run_equalIn_bool (d:Nat) {T:TypeId} (h:P.underlying T=some .bool) (a b:Bool):(Op.equalIn (d+1) T (.bool a) (.bool b)).run P w = .ok (a == b) w:=by
 simp [Op.equalIn,run_underlying h]
theorem run_equal_bool {T:TypeId} (h:P.underlying T=some .bool) (a b:Bool):(Op.equal T (.bool a) (.bool b)).run P w = .ok (a == b) w:=run_equalIn_bool 9999 h a b
theorem litsOf_rel {xs:List AV} {us:List Value} {vs:Array Value} (h:litsOf xs=some us) (hr:RelCs S w ρ xs vs):vs.toList=us:=by
 have key:∀ (xs:List AV) (us:List Value),litsOf xs=some us→us.length=xs.length∧∀ (k:Nat) c,xs[k]? = some c → ∃ u,us[k]? = some u∧c=AV.lit u:=by
  intro xs
  induction xs with
  | nil=>intro us h; simp [litsOf] at h; subst h; exact ⟨rfl,fun k c h=>by simp at h⟩
  | cons x xs ih =>
   intro us h
   cases x <;> simp [litsOf] at h
   obtain ⟨us',h1,rfl⟩:=h
   obtain ⟨h2,h3⟩:=ih us' h1
   refine ⟨by simp [h2],fun k c hk => ?_⟩
   cases k with
   | zero=>simp at hk; subst hk; exact ⟨_,by simp,rfl⟩
   | succ k=>simp at hk; simpa using h3 k c hk
 obtain ⟨h1,h2⟩:=key xs us h
 apply List.ext_getElem?
 intro k
 by_cases hk:k<xs.length
 ·obtain ⟨u,hu,e⟩:=h2 k xs[k] (by simp [hk])
  have hk':k<vs.size:=by rw [hr.1]; exact hk
  have hv:vs[k]? = some vs[k]:=by simp [hk']
  have:=hr.2 k xs[k] _ (by simp [hk]) hv
  rw [e] at this
  have:=this.lit_inv
  rw [hu,← this]; simp [hk']
 ·rw [List.getElem?_eq_none (by simp [hr.1]; omega),List.getElem?_eq_none (by omega)]
theorem nil_slice {T e:TypeId} (h:P.underlying T=some (.slice e)) (a:Option Addr) (l c:Nat) :
  (binOp .eql T (.slice a l c) (.slice none 0 0)).run P w = .ok (.bool a.isNone) w∧(binOp .neq T (.slice a l c) (.slice none 0 0)).run P w = .ok (.bool (!a.isNone)) w∧∀ op x y,(eqGuard op T x y (.slice a l c) (.slice none 0 0)).run P w = .ok () w:=by
 refine ⟨?_,?_,fun op x y=>by cases op <;> simp [eqGuard]⟩
 ·simp only [binOp]; simp [run_equal_slice_nil w T e a l c h]
 ·simp only [binOp]; simp [run_equal_slice_nil w T e a l c h]
theorem nil_ptr {T e:TypeId} (h:P.underlying T=some (.pointer e)) (a:Option Addr) :
  (binOp .eql T (.pointer a) (.pointer none)).run P w = .ok (.bool a.isNone) w∧(binOp .neq T (.pointer a) (.pointer none)).run P w = .ok (.bool (!a.isNone)) w∧∀ op x y,(eqGuard op T x y (.pointer a) (.pointer none)).run P w = .ok () w:=by
 have h':P.underlying T=some (.pointer (P.pointee T)):=by
  have:P.pointee T=e:=by unfold Program.pointee; rw [h]
  rw [this]; exact h
 refine ⟨?_,?_,fun op x y=>by cases op <;> simp [eqGuard]⟩
 ·simp only [binOp]; simp [run_equal_pointer_nil w T a h']
 ·simp only [binOp]; simp [run_equal_pointer_nil w T a h']
theorem nilEq_sound {T:TypeId} {x y:AV} {u v:Value} {c:Prop} {r:Bool} (h:nilEq P T x y=some (c,r)) (hc:c) (hx:Rel S w ρ x u) (hy:Rel S w ρ y v) :
  (binOp .eql T u v).run P w = .ok (.bool r) w∧(binOp .neq T u v).run P w = .ok (.bool (!r)) w∧∀ op a b,(eqGuard op T a b u v).run P w = .ok () w:=by
 unfold nilEq at h
 split at h
 ·obtain rfl:=hy.lit_inv
  split at h
  ·rename_i hu
   cases h
   obtain ⟨a,cap,rfl,hh⟩:=hx.vsl_inv
   obtain ⟨b,off,rfl,-⟩:=hh hc
   exact nil_slice hu _ _ _
  ·cases h
 ·obtain rfl:=hy.lit_inv
  split at h
  ·rename_i hu
   cases h
   rcases hx.vec_inv with ⟨a,rfl,e⟩ | ⟨b,T',n,cap,hb,h1,h2,h3,rfl⟩
   ·subst e; exact absurd hc (by decide)
   ·exact nil_slice hu _ _ _
  ·cases h
 ·obtain rfl:=hx.lit_inv
  obtain rfl:=hy.lit_inv
  split at h
  ·rename_i hu
   cases h
   exact nil_slice hu _ _ _
  ·cases h
 ·obtain rfl:=hy.lit_inv
  split at h
  ·rename_i hu
   cases h
   obtain ⟨b,hb,rfl⟩:=hx.ptr_inv
   exact nil_ptr hu _
  ·cases h
 ·obtain rfl:=hy.lit_inv
  split at h
  ·rename_i hu
   cases h
   obtain ⟨b,hb,rfl⟩:=hx.rptr_inv
   exact nil_ptr hu _
  ·cases h
 ·obtain rfl:=hy.lit_inv
  split at h
  ·rename_i hu
   cases h
   obtain ⟨b,off,rfl,-⟩:=hx.vptr_inv
   exact nil_ptr hu _
  ·cases h
 ·obtain rfl:=hx.lit_inv
  obtain rfl:=hy.lit_inv
  split at h
  ·rename_i hu
   cases h
   exact nil_ptr hu _
  ·cases h
 ·cases h
theorem binAbs_sound {op:BinOp} {T:TypeId} {x y z:AV} {a b:Operand} {u v:Value} {c:Prop} (h:binAbs P op T x y=some (c,z)) (hc:c) (hx:Rel S w ρ x u) (hy:Rel S w ρ y v) :
  ∃ q,(do eqGuard op T a b u v; binOp op T u v:Sem Value).run P w = .ok q w∧Rel S w ρ z q:=by
 unfold binAbs at h
 split at h
 ·obtain rfl:=hx.lit_inv
  obtain rfl:=hy.lit_inv
  split at h
  ·cases h
   exact ⟨_,by simp [eqGuard_int,binOp,Op.shift,Int.not_lt.2 hc],.lit _⟩
  ·cases h
   exact ⟨_,by simp [eqGuard_int,binOp,Op.shift,Int.not_lt.2 hc],.lit _⟩
  ·split at h
   ·rename_i hk; subst hk
    simp only [Option.map_eq_some_iff,Prod.mk.injEq] at h
    obtain ⟨⟨c',q⟩,h1,rfl,rfl⟩:=h
    exact ⟨_,by simp [eqGuard_int,run_intBin T h1 hc],.lit _⟩
   ·cases h
 ·obtain rfl:=hx.lit_inv
  obtain rfl:=hy.lit_inv
  split at h
  ·rename_i t ht
   split at h
   ·rename_i hk
    obtain ⟨i,d,zz,hi,hd,-,-,-,-,-,-,-,-,h4,-⟩:=tyOf_inv ht
    obtain rfl:=h4 hk
    split at h
    ·cases h
     exact ⟨_,by simp [eqGuard_bool,binOp,run_equal_bool hd],.lit _⟩
    ·cases h
     exact ⟨_,by simp [eqGuard_bool,binOp,run_equal_bool hd],.lit _⟩
    ·cases h
   ·cases h
  ·cases h
 ·obtain ⟨vs,rfl,hl,hr⟩:=hx.agg_inv
  obtain ⟨vs',rfl,hl',hr'⟩:=hy.agg_inv
  split at h
  ·rename_i us us' h1 h2
   have e1:=litsOf_rel h1 ⟨hl,hr⟩
   have e2:=litsOf_rel h2 ⟨hl',hr'⟩
   split at h
   ·rename_i r hr0
    cases h
    have:=hc.2 w us us' r hr0
    rw [← e1,← e2] at this
    exact ⟨_,by simp [eqGuard_agg _ _ _ _ _ _ hc.1,binOp]; simpa using congrArg (fun q=>q.andThen fun a w'=>Result.ok (Value.bool a) w') this,.lit _⟩
   ·rename_i r hr0
    cases h
    have:=hc.2 w us us' r hr0
    rw [← e1,← e2] at this
    exact ⟨_,by simp [eqGuard_agg _ _ _ _ _ _ hc.1,binOp]; simpa using congrArg (fun q=>q.andThen fun a w'=>Result.ok (Value.bool (!a)) w') this,.lit _⟩
   ·cases h
  ·cases h
 ·unfold nilAbs at h
  split at h
  ·rename_i c' r he
   cases h
   obtain ⟨h1,-,h2⟩:=nilEq_sound he hc hx hy
   exact ⟨_,by simp [h2,h1],.lit _⟩
  ·rename_i c' r he
   cases h
   obtain ⟨-,h1,h2⟩:=nilEq_sound he hc hx hy
   exact ⟨_,by simp [h2,h1],.lit _⟩
  ·cases h
theorem rptr' {i sz n j b m:Nat} (h:ρ i=some b) (e:m=n*sz+j):Rel S w ρ (.rptr i sz n j) (.pointer (some ⟨b,m,none⟩)):=by subst e; exact .rptr h
theorem vptr' {sz b off n j m:Nat} {xs:List (List AV)} (vs:Nat→Nat→Value) (hS:S b) (hz:∀ (k:Nat) cs,xs[k]? = some cs→cs.length=sz)
  (hv:∀ (k j:Nat) cs c,xs[k]? = some cs→cs[j]? = some c→w.cell? ⟨b,off+k*sz+j,none⟩=some (vs k j))
  (hr:∀ (k j:Nat) cs c,xs[k]? = some cs→cs[j]? = some c→Rel S w noNames c (vs k j)) (e:m=off+n*sz+j):Rel S w ρ (.vptr sz xs n j) (.pointer (some ⟨b,m,none⟩)):=by subst e; exact .vptr vs hS hz hv hr
theorem rel_drop_take {cs:List AV} {vs:Array Value} (h:RelCs S w ρ cs vs) {o n:Nat} (hn:o+n≤cs.length):Rel S w ρ (.agg ((cs.drop o).take n)) (.agg (vs.extract o (o+n))):=by
 refine .agg (by simp [h.1]; omega) (fun k c v h1 h2 => ?_)
 simp only [List.getElem?_take,List.getElem?_drop] at h1
 split at h1
 ·rename_i hk
  have h3:vs[o+k]? = some v:=by
   rw [Array.getElem?_extract] at h2
   split at h2
   ·exact h2
   ·cases h2
  exact h.2 _ _ _ h1 h3
 ·cases h1
theorem part_rel {cs:List AV} {vs:Array Value} {T:TypeId} {u:Ty} {o:Nat} (h:RelCs S w ρ cs vs) (hu:tyOf P T=some u)
  (hn:o+(if u.agg then u.size else 1)≤cs.length) : ∃ q,(part T vs o).run P w = .ok q w∧Rel S w ρ (if u.agg then .agg ((cs.drop o).take u.size) else cs.getD o .top) q:=by
 have ha:=run_isAgg_ty hu w
 have hs:=run_sizeOf_ty hu w
 cases hg:u.agg
 ·rw [hg] at ha hn
  simp at hn
  obtain ⟨v,h1,h2⟩:=h.at (k:=o) (by omega)
  exact ⟨v,by simp [part,ha,h1],by simpa using h2⟩
 ·rw [hg] at ha hn
  simp at hn
  exact ⟨.agg (vs.extract o (o+u.size)),by simp [part,ha,hs],by simpa using rel_drop_take h hn⟩
theorem rel_map {ops:Array Operand} (hr:∀ x ∈ ops,grd (r x)=true) (h:∀ x,Rel S w ρ (r x) (ev x)):RelCs S w ρ (ops.toList.map fun x=>strip (r x)) (ops.map ev):=by
 refine ⟨by simp,fun k c v h1 h2 => ?_⟩
 simp at h1 h2
 obtain ⟨x,hx,rfl⟩:=h1
 obtain ⟨y,hy,rfl⟩:=h2
 rw [hx] at hy; cases hy
 exact (h x).strip (hr x (Array.mem_of_getElem? hx))
theorem arr1 {α:Type} {xs:Array α} {x:α} (h:xs.toList=[x]):xs = #[x]:=by cases xs; simp_all
theorem arr2 {α:Type} {xs:Array α} {x y:α} (h:xs.toList=[x,y]):xs = #[x,y]:=by cases xs; simp_all
theorem arr3 {α:Type} {xs:Array α} {x y z:α} (h:xs.toList=[x,y,z]):xs = #[x,y,z]:=by cases xs; simp_all
theorem max_if (a b:Int):(if b > a then b else a)=max a b:=by split <;> omega
theorem min_if (a b:Int):(if b<a then b else a)=min a b:=by split <;> omega
set_option maxHeartbeats 2000000 in
theorem absCall_sound {o:Oper} {cl:Call} {c:Prop} {z:AV} (ho:o.op = .call cl) (h:absPure P (.call cl) r=some (c,z)) (hc:c) (hr:∀ x,Rel S w ρ (r x) (ev x)) :
  ∃ q,(execOp ev o).run P w = .ok (.value q) w∧Rel S w ρ z q:=by
 obtain ⟨callee,args,argTypes⟩:=cl
 have hx:execOp ev o=(do let d ← resolve ev ⟨callee,args,argTypes⟩ o.type; invoke d.target d.args):=by
  unfold execOp; rw [ho]
 rw [hx]
 clear hx
 cases callee with
 | value f=>simp [absPure] at h
 | invoke a b=>simp [absPure] at h
 | builtin b =>
  cases b <;> simp only [absPure,reduceCtorEq] at h
  case len =>
   split at h
   ·rename_i x T ha hT
    obtain rfl:=arr1 ha
    obtain rfl:=arr1 hT
    have hk3:∀ t:Ty,tyOf P T=some t→t.kind=3→P.underlying T=some (.slice t.elem):=fun t ht hk=>by
     obtain ⟨i0,d,zz,hi,hd,-,-,-,-,-,-,-,h3,-⟩:=tyOf_inv ht
     rw [hd,h3 hk]
    split at h
    ·rename_i t sz xs ht he
     split at h <;> cases h
     rename_i hk
     have h0:=(hr x).strip hc
     rw [he] at h0
     obtain ⟨a,cap,e,-⟩:=h0.vsl_inv
     exact ⟨_,by simp [resolve,invoke,builtin,Builtin.len_,run_underlying (hk3 _ ht hk),e,goInt],.lit _⟩
    ·rename_i t k sz lo len ht he
     split at h <;> cases h
     rename_i hk
     have h0:=(hr x).strip hc
     rw [he] at h0
     refine ⟨.int .i64 len,?_,.lit _⟩
     rcases h0.vec_inv with ⟨a,e,rfl⟩ | ⟨b,T',n',cap,hb,hsh,hcap,hl,e⟩
     ·simp [resolve,invoke,builtin,Builtin.len_,run_underlying (hk3 _ ht hk),e,goInt]
     ·simp [resolve,invoke,builtin,Builtin.len_,run_underlying (hk3 _ ht hk),e,goInt]
    ·rename_i t a n cap ht he
     split at h <;> cases h
     rename_i hk
     have h0:=(hr x).strip hc
     rw [he] at h0
     exact ⟨_,by simp [resolve,invoke,builtin,Builtin.len_,run_underlying (hk3 _ ht hk),h0.lit_inv,goInt],.lit _⟩
    ·rename_i t ht _ _ _
     split at h <;> cases h
     rename_i hk
     obtain ⟨i0,d,zz,hi,hd,-,-,-,-,-,-,h2,-⟩:=tyOf_inv ht
     obtain rfl:=h2 hk
     exact ⟨_,by simp [resolve,invoke,builtin,Builtin.len_,run_underlying hd,goInt],.lit _⟩
    ·cases h
   ·cases h
  case max =>
   split at h
   ·rename_i x y ha
    obtain rfl:=arr2 ha
    split at h <;> cases h
    rename_i k a k' b he1 he2
    have h1:=(hr x).strip hc.1
    have h2:=(hr y).strip hc.2
    rw [he1] at h1
    rw [he2] at h2
    exact ⟨_,by simp [resolve,invoke,builtin,Builtin.max_,Builtin.max2,h1.lit_inv,h2.lit_inv,max_if],.lit _⟩
   ·rename_i x y y' ha
    obtain rfl:=arr3 ha
    split at h <;> cases h
    rename_i k a k' b k'' d he1 he2 he3
    have h1:=(hr x).strip hc.1
    have h2:=(hr y).strip hc.2.1
    have h3:=(hr y').strip hc.2.2
    rw [he1] at h1
    rw [he2] at h2
    rw [he3] at h3
    exact ⟨_,by simp [resolve,invoke,builtin,Builtin.max_,Builtin.max2,h1.lit_inv,h2.lit_inv,h3.lit_inv,max_if],.lit _⟩
   ·cases h
  case min =>
   split at h
   ·rename_i x y ha
    obtain rfl:=arr2 ha
    split at h <;> cases h
    rename_i k a k' b he1 he2
    have h1:=(hr x).strip hc.1
    have h2:=(hr y).strip hc.2
    rw [he1] at h1
    rw [he2] at h2
    exact ⟨_,by simp [resolve,invoke,builtin,Builtin.min_,Builtin.min2,h1.lit_inv,h2.lit_inv,min_if],.lit _⟩
   ·rename_i x y y' ha
    obtain rfl:=arr3 ha
    split at h <;> cases h
    rename_i k a k' b k'' d he1 he2 he3
    have h1:=(hr x).strip hc.1
    have h2:=(hr y).strip hc.2.1
    have h3:=(hr y').strip hc.2.2
    rw [he1] at h1
    rw [he2] at h2
    rw [he3] at h3
    exact ⟨_,by simp [resolve,invoke,builtin,Builtin.min_,Builtin.min2,h1.lit_inv,h2.lit_inv,h3.lit_inv,min_if],.lit _⟩
   ·cases h
set_option maxHeartbeats 2000000 in
theorem absPure_sound {o:Oper} {c:Prop} {z:AV} (h:absPure P o.op r=some (c,z)) (hc:c) (hr:∀ x,Rel S w ρ (r x) (ev x)) :
  ∃ q,(execOp ev o).run P w = .ok (.value q) w∧Rel S w ρ z q:=by
 obtain ⟨dst,op,ty,pos,after,guard⟩:=o
 cases op <;> simp only [absPure,reduceCtorEq] at h
 case move x=>cases h; exact ⟨_,rfl,(hr x).strip hc⟩
 case assign x=>cases h; exact ⟨_,rfl,(hr x).strip hc⟩
 case pick cc a b =>
  split at h
  ·rename_i cb hcb
   simp only [Option.map_eq_some_iff,Prod.mk.injEq] at h
   obtain ⟨z',hz,rfl,rfl⟩:=h
   have h0:=(hr cc).strip hc.1
   rw [hcb] at h0
   refine ⟨if cb then ev a else ev b,?_,mkIf_rel hz (fun e=>(hr a).strip (hc.2.1 e)) (fun e=>(hr b).strip (hc.2.2 e))⟩
   simp [execOp,h0.lit_inv,asBool]
  ·cases h
 case fieldAddr T x f =>
  split at h
  ·rename_i t ht
   split at h
   ·rename_i o U hk hf
    obtain ⟨i,d,zz,hi,hd,-,-,-,-,-,h1,-⟩:=tyOf_inv ht
    obtain ⟨fs,rfl,hoffs⟩:=h1 hk
    rw [hoffs] at hf
    simp at hf
    obtain ⟨g,hg,rfl,rfl⟩:=hf
    split at h
    ·rename_i u hu
     split at h
     ·cases h
     ·rename_i hsz
      have hs:=run_sizeOf_ty hu w
      split at h <;> cases h
      ·rename_i i off he
       have h0:=(hr x).strip hc
       rw [he] at h0
       obtain ⟨b,hb,e⟩:=h0.ptr_inv
       exact ⟨_,by simp [execOp,Instr.fieldAt,run_underlying hd,hg,e,Instr.sureAddr,fieldPlace,hs,hsz,add_off],.ptr hb⟩
      ·rename_i i s n j he
       have h0:=(hr x).strip hc
       rw [he] at h0
       obtain ⟨b,hb,e⟩:=h0.rptr_inv
       exact ⟨.pointer (some ⟨b,n*s+j+g.offset,none⟩),by simp [execOp,Instr.fieldAt,run_underlying hd,hg,e,Instr.sureAddr,fieldPlace,hs,hsz,add_off],rptr' hb (by omega)⟩
      ·rename_i s xs n j he
       have h0:=(hr x).strip hc
       rw [he] at h0
       obtain ⟨b,off,e,hS,hz,vs,hv,hr'⟩:=h0.vptr_inv
       exact ⟨.pointer (some ⟨b,off+n*s+j+g.offset,none⟩),by simp [execOp,Instr.fieldAt,run_underlying hd,hg,e,Instr.sureAddr,fieldPlace,hs,hsz,add_off],vptr' vs hS hz hv hr' (by omega)⟩
    ·cases h
   ·cases h
  ·cases h
 case nilCheck x =>
  split at h <;> cases h
  ·rename_i i off he
   have h0:=(hr x).strip hc
   rw [he] at h0
   obtain ⟨b,hb,e⟩:=h0.ptr_inv
   exact ⟨_,by simp [execOp,e],.ptr hb⟩
  ·rename_i i s n j he
   have h0:=(hr x).strip hc
   rw [he] at h0
   obtain ⟨b,hb,e⟩:=h0.rptr_inv
   exact ⟨_,by simp [execOp,e],.rptr hb⟩
  ·rename_i s xs n j he
   have h0:=(hr x).strip hc
   rw [he] at h0
   obtain ⟨b,off,e,hS,hz,vs,hv,hr'⟩:=h0.vptr_inv
   exact ⟨_,by simp [execOp,e],.vptr vs hS hz hv hr'⟩
  ·rename_i f xs cs he
   have h0:=(hr x).strip hc
   rw [he] at h0
   obtain ⟨ys,vs,e,h1,h2,h3,h4⟩:=h0.fn_inv
   exact ⟨_,by simp [execOp,e],.fn h1 h2 h3 h4⟩
  ·rename_i f xs cs he
   have h0:=(hr x).strip hc
   rw [he] at h0
   exact ⟨_,by simp [execOp,h0.lit_inv],.lit _⟩
 case binOp op T x y T' =>
  simp only [Option.map_eq_some_iff,Prod.mk.injEq] at h
  obtain ⟨⟨c',z'⟩,h1,rfl,rfl⟩:=h
  obtain ⟨q,hq,hrel⟩:=binAbs_sound (a:=x) (b:=y) h1 hc.2.2 ((hr x).strip hc.1) ((hr y).strip hc.2.1)
  exact ⟨q,by simp only [execOp,Sem.run_bind,hq,Result.andThen_ok,Sem.run_pure],hrel⟩
 case unOp op T x =>
  split at h <;> cases h
  ·rename_i k n he
   have h0:=(hr x).strip hc
   rw [he] at h0
   exact ⟨_,by simp [execOp,h0.lit_inv,Op.unary,Op.intArith],.lit _⟩
  ·rename_i k he
   have h0:=(hr x).strip hc
   rw [he] at h0
   exact ⟨_,by simp [execOp,h0.lit_inv,Op.unary],.lit _⟩
 case convert U T x =>
  split at h
  ·rename_i s t k n hs ht he
   split at h
   ·rename_i hk
    cases h
    have h0:=(hr x).strip hc
    rw [he] at h0
    obtain ⟨i,d,zz,hi,hd,-⟩:=tyOf_inv hs
    obtain ⟨i',d',zz',hi',hd',-,-,-,-,-,-,-,-,-,h5,-⟩:=tyOf_inv ht
    obtain rfl:=h5 hk
    exact ⟨_,by simp [execOp,h0.lit_inv,convert,run_underlying hd,run_underlying hd',Conv.intToInt],.lit _⟩
   ·cases h
  ·cases h
 case makeFunc f first cap =>
  cases h
  obtain ⟨a1,a2⟩:=rel_map (ev:=ev) hc.1 hr
  obtain ⟨b1,b2⟩:=rel_map (ev:=ev) hc.2 hr
  exact ⟨_,by simp [execOp,Instr.makeFunc],.fn a1 a2 b1 b2⟩
 case extract x k =>
  split at h
  ·rename_i cs he
   simp only [Option.map_eq_some_iff,Prod.mk.injEq] at h
   obtain ⟨c',h1,rfl,rfl⟩:=h
   have h0:=(hr x).strip hc
   rw [he] at h0
   obtain ⟨vs,e,hl,hh⟩:=h0.tup_inv
   have hk:k<vs.size:=by rw [hl]; exact (List.getElem?_eq_some_iff.1 h1).1
   exact ⟨vs[k],by simp [execOp,e,Instr.extract,hk],hh k c' _ h1 (by simp [hk])⟩
  ·cases h
 case field T x f =>
  split at h
  ·rename_i t cs ht he
   split at h
   ·rename_i o U hk hf
    split at h
    ·rename_i u hu
     cases h
     obtain ⟨i,d,zz,hi,hd,-,-,-,-,-,h1,-⟩:=tyOf_inv ht
     obtain ⟨fs,rfl,hoffs⟩:=h1 hk
     rw [hoffs] at hf
     simp at hf
     obtain ⟨g,hg,rfl,rfl⟩:=hf
     have h0:=(hr x).strip hc.1
     rw [he] at h0
     obtain ⟨vs,e,hl,hh⟩:=h0.agg_inv
     obtain ⟨q,hq,hrel⟩:=part_rel ⟨hl,hh⟩ hu hc.2
     exact ⟨q,by simp [execOp,Instr.field,run_underlying hd,hg,e,asAgg,hq],hrel⟩
    ·cases h
   ·cases h
  ·cases h
 case index T x i =>
  split at h
  ·rename_i t cs k n ht he hi'
   split at h
   ·rename_i hk
    split at h
    ·rename_i u hu
     cases h
     obtain ⟨i0,d,zz,hi,hd,-,-,-,-,-,-,h2,-⟩:=tyOf_inv ht
     obtain rfl:=h2 hk
     have h0:=(hr x).strip hc.1
     rw [he] at h0
     have hi0:=(hr i).strip hc.2.1
     rw [hi'] at hi0
     obtain ⟨vs,e,hl,hh⟩:=h0.agg_inv
     obtain ⟨q,hq,hrel⟩:=part_rel ⟨hl,hh⟩ hu hc.2.2.2.2
     exact ⟨q,by simp [execOp,Instr.index,run_underlying hd,e,hi0.lit_inv,asIntOf,hc.2.2.1,hc.2.2.2.1,run_sizeOf_ty hu,hq],hrel⟩
    ·cases h
   ·cases h
  ·cases h
 case indexAddr T x i =>
  split at h
  ·rename_i t k n ht hi'
   split at h
   ·rename_i u hu
    obtain ⟨i0,d,zz,hi,hd,-,-,-,-,-,-,h2,h3,-⟩:=tyOf_inv ht
    have hs:=run_sizeOf_ty hu w
    split at h
    ·rename_i hk
     obtain rfl:=h3 hk
     split at h
     ·rename_i sz xs he
      split at h
      ·rename_i hsz
       cases h
       subst hsz
       have h0:=(hr x).strip hc.1
       rw [he] at h0
       have hi0:=(hr i).strip hc.2.1
       rw [hi'] at hi0
       obtain ⟨a,cap,e,hh⟩:=h0.vsl_inv
       obtain ⟨b,off,rfl,hS,hcap,hz,vs,hv,hr'⟩:=hh (by omega)
       refine ⟨_,by simp [execOp,Instr.indexAt,run_underlying hd,e,hi0.lit_inv,asIntOf,hc.2.2.1,hc.2.2.2,hs,add_off]; rfl,?_⟩
       exact .vptr (j:=0) vs hS hz hv hr'
      ·cases h
     ·rename_i j sz lo len he
      split at h
      ·rename_i hsz
       cases h
       subst hsz
       have h0:=(hr x).strip hc.1
       rw [he] at h0
       have hi0:=(hr i).strip hc.2.1
       rw [hi'] at hi0
       rcases h0.vec_inv with ⟨a,-,e0⟩ | ⟨b,T',n',cap,hb,hsh,hcap,hl,e⟩
       ·omega
       ·refine ⟨_,by simp [execOp,Instr.indexAt,run_underlying hd,e,hi0.lit_inv,asIntOf,hc.2.2.1,hc.2.2.2,hs,add_off]; rfl,?_⟩
        have:=Rel.rptr (S:=S) (w:=w) (sz:=u.size) (n:=lo+n.toNat) (j:=0) hb
        simpa [Nat.add_mul] using this
      ·cases h
     ·cases h
    ·split at h
     ·rename_i hk3 hk
      obtain rfl:=h2 hk
      have htiny:∀ c:Prop,c→True:=fun _ _=>trivial
      split at h <;> cases h
      ·rename_i j off he
       have h0:=(hr x).strip hc.1
       rw [he] at h0
       have hi0:=(hr i).strip hc.2.1
       rw [hi'] at hi0
       obtain ⟨b,hb,e⟩:=h0.ptr_inv
       exact ⟨_,by simp [execOp,Instr.indexAt,run_underlying hd,e,hi0.lit_inv,asIntOf,Instr.sureAddr,hc.2.2.1,hc.2.2.2,hs,add_off],.ptr hb⟩
      ·rename_i j s m jj he
       have h0:=(hr x).strip hc.1
       rw [he] at h0
       have hi0:=(hr i).strip hc.2.1
       rw [hi'] at hi0
       obtain ⟨b,hb,e⟩:=h0.rptr_inv
       exact ⟨.pointer (some ⟨b,m*s+jj+n.toNat*u.size,none⟩),by simp [execOp,Instr.indexAt,run_underlying hd,e,hi0.lit_inv,asIntOf,Instr.sureAddr,hc.2.2.1,hc.2.2.2,hs,add_off],rptr' hb (by omega)⟩
      ·rename_i s xs m jj he
       have h0:=(hr x).strip hc.1
       rw [he] at h0
       have hi0:=(hr i).strip hc.2.1
       rw [hi'] at hi0
       obtain ⟨b,off,e,hS,hz,vs,hv,hr'⟩:=h0.vptr_inv
       exact ⟨.pointer (some ⟨b,off+m*s+jj+n.toNat*u.size,none⟩),by simp [execOp,Instr.indexAt,run_underlying hd,e,hi0.lit_inv,asIntOf,Instr.sureAddr,hc.2.2.1,hc.2.2.2,hs,add_off],vptr' vs hS hz hv hr' (by omega)⟩
     ·cases h
   ·cases h
  ·cases h
 case call cl=>exact absCall_sound (o:=⟨dst,.call cl,ty,pos,after,guard⟩) rfl h hc hr
end
end Go.Proofs.Ytoncoofmijjgeaa.Sep
namespace Go.Proofs.Ytoncoofmijjgeaa.Sep
open Go
set_option linter.unusedVariables false
set_option linter.unusedSimpArgs false
section
variable {P : Program} {w : World}
theorem cell_of_heap {b off:Nat} {vs:Array Value} {T:TypeId} {fz:Nat × Nat} (h:w.heap[b]? = some (.cells vs T fz)):w.cell? ⟨b,off,none⟩=vs[off]? := by simp [World.cell?,h]
theorem heap_setCell (b off:Nat) (v:Value) {cur:Array Value} {T:TypeId} {fz:Nat × Nat} (h:w.heap[b]? = some (.cells cur T fz)) :
  (w.setCell ⟨b,off,none⟩ v).heap[b]? = some (.cells (cur.setIfInBounds off v) T fz)∧∀ c,c≠b→(w.setCell ⟨b,off,none⟩ v).heap[c]? = w.heap[c]? := by
 constructor
 ·simp only [World.setCell,Array.getElem?_modify,if_true,h,Option.map_some]; simp
 ·intro c hc
  simp only [World.setCell,Array.getElem?_modify]
  rw [if_neg (fun e=>hc e.symm)]
theorem run_storeCells_at (b off:Nat) {T:TypeId} : ∀ (vs:List Value) (i:Nat) (cur:Array Value) (w:World),w.heap[b]? = some (.cells cur T (0,0))→off+i+vs.length≤cur.size→(∀ v ∈ vs,v.oneCell'=true) →
  ∃ w' cur',(storeCells ⟨b,off,none⟩ vs i).run P w = .ok () w'∧w'.heap.size=w.heap.size∧(∀ c,c≠b→w'.heap[c]? = w.heap[c]?)∧w'.heap[b]? = some (.cells cur' T (0,0))∧cur'.size=cur.size ∧
   (∀ t:Nat,cur'[t]? = if off+i≤t∧t<off+i+vs.length then vs[t-(off+i)]? else cur[t]?)∧w'.os=w.os∧w'.output=w.output:=by
 intro vs
 induction vs with
 | nil =>
  intro i cur w hb _ _
  exact ⟨w,cur,rfl,rfl,fun _ _=>rfl,hb,rfl,fun t=>by rw [if_neg (by simp)],rfl,rfl⟩
 | cons v rest ih =>
  intro i cur w hb hl h1
  have hlen:off+i<cur.size:=by simp at hl; omega
  have hst:(store ((⟨b,off,none⟩:Addr).add i) v).run P w = .ok () (w.setCell ⟨b,off+i,none⟩ v):=by
   rw [add_off,run_store P w _ v _ (h1 v (by simp))]
   simp [cell_of_heap hb,hlen,World.frozen?,hb]
  obtain ⟨h2,h3⟩:=heap_setCell (w:=w) b (off+i) v hb
  obtain ⟨w',cur',r1,r2,r3,r4,r5,r6,r7,r8⟩:=ih (i+1) _ _ h2 (by simp at hl ⊢; omega) (fun x hx=>h1 x (by simp [hx]))
  refine ⟨w',cur',by simp [storeCells,hst,r1],by simpa using r2,fun c hc=>(r3 c hc).trans (h3 c hc),r4,by simpa using r5,fun t => ?_,r7.trans rfl,r8.trans rfl⟩
  rw [r6 t]
  by_cases ht:t=off+i
  ·subst ht
   rw [if_neg (by omega),if_pos (by simp)]
   simp [hlen]
  ·by_cases hc:off+(i+1)≤t∧t<off+(i+1)+rest.length
   ·rw [if_pos hc,if_pos (by simp; omega)]
    rw [show t-(off+i)=(t-(off+(i+1)))+1 by omega]; simp
   ·rw [if_neg hc,if_neg (by simp; omega)]
    simp only [Array.getElem?_setIfInBounds]
    rw [if_neg (fun e=>ht e.symm)]
theorem run_loadVar_fn {T:TypeId} {t:Ty} (ht:tyOf P T=some t) {b off:Nat} (f:Nat→Value) (h:∀ k,k<(if t.agg then t.size else 1)→w.cell? ⟨b,off+k,none⟩=some (f k)) :
  (loadVar T ⟨b,off,none⟩).run P w = .ok (if t.agg then .agg ((List.range t.size).map f).toArray else f 0) w:=by
 have ha:=run_isAgg_ty ht w
 have hs:=run_sizeOf_ty ht w
 cases hg:t.agg
 ·rw [hg] at ha h
  have:=h 0 (by simp)
  simp only [Nat.add_zero] at this
  simp [loadVar,ha,this]
 ·rw [hg] at ha h
  have:=run_loadCells (P:=P) w ⟨b,off,none⟩ t.size f (fun j hj=>by rw [add_off]; exact h j (by simpa using hj))
  simp [loadVar,ha,hs,this]
end
def Ty.n (t:Ty):Nat:=if t.agg then t.size else 1
def absMem (P:Program) (o:Op) (id:Nat) (r:Operand→AV) (H:Nat→Option Blk):Option Out :=
 match o with
 | .alloc T=>(tyOf P T).map fun t => { cond:=True,val:=.ptr id 0,wr:=[(id,.cells t.zero)] }
 | .box _ x=>(cellsOf? (strip (r x))).map fun cs => { cond:=grd (r x)=true,val:=.ptr id 0,wr:=[(id,.cells cs)] }
 | .load T x =>
  match tyOf P T with
  | some t =>
   match strip (r x) with
   | .ptr i off =>
    match H i with
    | some (.cells cs)=>some { cond:=grd (r x)=true∧off+t.n≤cs.length,val:=if t.agg then .agg ((cs.drop off).take t.size) else cs.getD off .top,ri:=[i] }
    | _=>none
   | .rptr i s n j =>
    match H i with
    | some (.row sz xs)=>if s=sz then some { cond:=grd (r x)=true∧n<xs.length∧j+t.n≤s,val:=if t.agg then .agg (((xs.getD n []).drop j).take t.size) else (xs.getD n []).getD j .top,ri:=[i] } else none
    | _=>none
   | .vptr s xs n j=>some { cond:=grd (r x)=true∧n<xs.length∧j+t.n≤s,val:=if t.agg then .agg (((xs.getD n []).drop j).take t.size) else (xs.getD n []).getD j .top }
   | _=>none
  | none=>none
 | .store T x y =>
  match tyOf P T,cellsOf? (strip (r y)) with
  | some t,some vs =>
   match strip (r x) with
   | .ptr i off =>
    match H i with
    | some (.cells cs)=>some { cond:=grd (r x)=true∧grd (r y)=true∧vs.length=t.size∧vs.all AV.scalar=true∧off+t.size≤cs.length,val:=.top,ri:=[i],wr:=[(i,.cells (splice cs off vs))] }
    | _=>none
   | .rptr i s n j =>
    match H i with
    | some (.row sz xs)=>if s=sz then some { cond:=grd (r x)=true∧grd (r y)=true∧vs.length=t.size∧vs.all AV.scalar=true∧vs.all AV.closed=true∧n<xs.length∧j+t.size≤s,val:=.top,ri:=[i],wr:=[(i,.row sz (xs.set n (splice (xs.getD n []) j vs)))] } else none
    | _=>none
   | _=>none
  | _,_=>none
 | _=>none
theorem splice_length {cs new:List AV} {off:Nat} (h:off+new.length≤cs.length):(splice cs off new).length=cs.length:=by
 simp [splice]; omega
theorem splice_get {cs new:List AV} {off:Nat} (h:off+new.length≤cs.length) (k:Nat):(splice cs off new)[k]? = if off≤k∧k<off+new.length then new[k-off]? else cs[k]? := by
 have hl:(cs.take off).length=off:=by simp; omega
 unfold splice
 by_cases h1:k<off
 ·rw [if_neg (by omega),List.append_assoc,List.getElem?_append_left (by omega),List.getElem?_take,if_pos h1]
 ·by_cases h2:k<off+new.length
  ·rw [if_pos (by omega),List.append_assoc,List.getElem?_append_right (by omega),hl,List.getElem?_append_left (by omega)]
  ·rw [if_neg (by omega),List.getElem?_append_right (by simp; omega),List.getElem?_drop]
   congr 1; simp; omega
section
variable {C : Ctx} {ρ : Names} {S : Nat → Prop} {H : Nat → Option Blk} {nx : Nat → Prop} {w : World} {id : Nat} {P : Program} {r : Operand → AV} {ev : Operand → Value}
theorem shape?_cells {b:Nat} {vs:Array Value} {T:TypeId} {fz:Nat × Nat} (h:w.heap[b]? = some (.cells vs T fz)):w.shape? b=some (T,vs.size):=by simp [World.shape?,h]
theorem load_val {t:Ty} {cs:List AV} {ρ':Names} {o:Nat} (f:Nat→Value) (hn:o+t.n≤cs.length) (hf:∀ k c,k<t.n→cs[o+k]? = some c→Rel S w ρ' c (f k)) :
  Rel S w ρ' (if t.agg then .agg ((cs.drop o).take t.size) else cs.getD o .top) (if t.agg then .agg ((List.range t.size).map f).toArray else f 0):=by
 unfold Ty.n at hn hf
 cases hg:t.agg
 ·rw [hg] at hn hf
  simp at hn
  have hlt:o<cs.length:=by omega
  have:=hf 0 cs[o] (by simp) (by simp [hlt])
  simpa [List.getD,hlt] using this
 ·rw [hg] at hn hf
  simp at hn
  simp only [if_true]
  refine .agg (by simp; omega) (fun k c v h1 h2 => ?_)
  simp only [List.getElem?_take,List.getElem?_drop] at h1
  simp only [List.getElem?_toArray,List.getElem?_map] at h2
  split at h1
  ·rename_i hk
   rw [List.getElem?_range hk] at h2
   simp at h2
   subst h2
   exact hf k c (by simpa using hk) h1
  ·cases h1
theorem mul_lt_off {n m sz j:Nat} (hn:n<m) (hj:j<sz):n*sz+j<m*sz:=by
 have:(n+1)*sz≤m*sz:=Nat.mul_le_mul_right _ hn
 rw [Nat.add_mul] at this
 omega
theorem div_mod_off {n sz j:Nat} (hj:j<sz):(n*sz+j)/sz=n∧(n*sz+j)%sz=j:=by
 have h0:0<sz:=by omega
 constructor
 ·rw [Nat.mul_comm,Nat.mul_add_div h0,Nat.div_eq_of_lt hj]; omega
 ·rw [Nat.mul_comm,Nat.mul_add_mod,Nat.mod_eq_of_lt hj]
set_option maxHeartbeats 1000000 in
theorem absLoad_sound {T:TypeId} {x:Operand} {out:Out} (h:absMem P (.load T x) id r H=some out) (hc:out.cond) (hm:Mem C ρ S H nx w) (hr:Rel S w ρ (r x) (ev x)) :
  out.wr=[] ∧ ∃ b u,ev x = .pointer (some b)∧(loadVar T b).run P w = .ok u w∧Rel S w ρ out.val u:=by
 simp only [absMem] at h
 split at h
 ·rename_i t ht
  split at h
  ·rename_i i off he
   split at h <;> cases h
   rename_i cs hH
   have h0:=hr.strip hc.1
   rw [he] at h0
   obtain ⟨b,hb,e⟩:=h0.ptr_inv
   obtain ⟨n,vs,T',hn,hheap,hl,hrel⟩:=hm.blk i _ hH
   rw [hb] at hn; cases hn
   have hcell:∀ k,k<t.n→w.cell? ⟨b,off+k,none⟩=some (vs.getD (off+k) undef):=fun k hk=>by
    have:=hc.2
    rw [cell_of_heap hheap]
    have hlt:off+k<vs.size:=by rw [hl]; omega
    simp [hlt]
   refine ⟨rfl,_,(if t.agg then .agg ((List.range t.size).map fun k=>vs.getD (off+k) undef).toArray else vs.getD (off+0) undef),e,?_,?_⟩
   ·have:=run_loadVar_fn (w:=w) ht (b:=b) (off:=off) (fun k=>vs.getD (off+k) undef) hcell
    simpa using this
   ·refine load_val (fun k=>vs.getD (off+k) undef) hc.2 (fun k c hk hcs=>hrel _ c _ hcs ?_)
    have hlt:off+k<vs.size:=by rw [hl]; exact (List.getElem?_eq_some_iff.1 hcs).1
    simp [hlt]
  ·rename_i i s n j he
   split at h
   ·rename_i sz xs hH
    split at h <;> cases h
    rename_i hs
    subst hs
    have h0:=hr.strip hc.1
    rw [he] at h0
    obtain ⟨b,hb,e⟩:=h0.rptr_inv
    obtain ⟨hpos,hz,hblk⟩:=hm.blk i _ hH
    rcases hblk with ⟨h1,-⟩ | ⟨n',vs,T',hn',hheap,hrel⟩
    ·rw [hb] at h1; cases h1
    rw [hb] at hn'; cases hn'
    have hxn:xs[n]? = some (xs.getD n []):=by simp [List.getD,hc.2.1]
    have hlen:=hz n _ hxn
    have hcell:∀ k,k<t.n→w.cell? ⟨b,n*s+j+k,none⟩=some (vs.getD (n*s+j+k) undef):=fun k hk=>by
     have hc2:=hc.2.2
     have hjk:j+k<(xs.getD n []).length:=by rw [hlen]; omega
     obtain ⟨v,hv,-⟩:=hrel n (j+k) _ ((xs.getD n [])[j+k]) hxn (by simp)
     rw [← Nat.add_assoc] at hv
     rw [cell_of_heap hheap]
     simp [hv]
    refine ⟨rfl,_,(if t.agg then .agg ((List.range t.size).map fun k=>vs.getD (n*s+j+k) undef).toArray else vs.getD (n*s+j+0) undef),e,?_,?_⟩
    ·have:=run_loadVar_fn (w:=w) ht (b:=b) (off:=n*s+j) (fun k=>vs.getD (n*s+j+k) undef) hcell
     simpa using this
    ·refine Rel.up (load_val (fun k=>vs.getD (n*s+j+k) undef) (by rw [hlen]; exact hc.2.2) (fun k c hk hcs => ?_))
     obtain ⟨v,hv,hvr⟩:=hrel n (j+k) _ c hxn hcs
     rw [← Nat.add_assoc] at hv
     simpa [hv] using hvr
   ·cases h
  ·rename_i s xs n j he
   cases h
   have h0:=hr.strip hc.1
   rw [he] at h0
   obtain ⟨b,off,e,hSb,hz,vs,hv,hvr⟩:=h0.vptr_inv
   have hxn:xs[n]? = some (xs.getD n []):=by simp [List.getD,hc.2.1]
   have hlen:=hz n _ hxn
   have hcell:∀ k,k<t.n→w.cell? ⟨b,off+n*s+j+k,none⟩=some (vs n (j+k)):=fun k hk=>by
    have hc2:=hc.2.2
    have hjk:j+k<(xs.getD n []).length:=by rw [hlen]; omega
    have:=hv n (j+k) _ ((xs.getD n [])[j+k]) hxn (by simp)
    rwa [← Nat.add_assoc] at this
   refine ⟨rfl,_,(if t.agg then .agg ((List.range t.size).map fun k=>vs n (j+k)).toArray else vs n (j+0)),e,?_,?_⟩
   ·have:=run_loadVar_fn (w:=w) ht (b:=b) (off:=off+n*s+j) (fun k=>vs n (j+k)) hcell
    simpa using this
   ·exact Rel.up (load_val (fun k=>vs n (j+k)) (by rw [hlen]; exact hc.2.2) (fun k c hk hcs=>hvr n (j+k) _ c hxn hcs))
  ·cases h
 ·cases h
set_option maxHeartbeats 4000000 in
theorem absMem_sound {o:Oper} {out:Out} (h:absMem P o.op id r H=some out) (hc:out.cond) (hm:Mem C ρ S H nx w) (hid:nx id) (hr:∀ x,Rel S w ρ (r x) (ev x)) :
  Good C ρ S H nx w out id ((execOp ev o).run P w):=by
 obtain ⟨dst,op,ty,pos,after,guard⟩:=o
 cases op <;> simp only [absMem,reduceCtorEq] at h
 case alloc T =>
  simp only [Option.map_eq_some_iff] at h
  obtain ⟨t,ht,rfl⟩:=h
  obtain ⟨z,hz,ez⟩:=run_zeroValue_ty ht w
  refine Good.var (vs:=z.cells) (T:=T) hm hid (by simp [execOp,Instr.alloc,hz,newVar,newRow]) ⟨?_,?_⟩ rfl rfl
  ·rw [ez]; simp
  ·intro k c v h1 h2
   rw [ez] at h1
   simp at h1
   obtain ⟨u,hu,rfl⟩:=h1
   rw [h2] at hu; cases hu; exact .lit _
 case box T x =>
  simp only [Option.map_eq_some_iff] at h
  obtain ⟨cs,hcs,rfl⟩:=h
  exact Good.var (vs:=(ev x).cells) (T:=T) hm hid (by simp [execOp,Instr.box,newVar,newRow]) (cells_rel ((hr x).strip hc) hcs) rfl rfl
 case load T x =>
  obtain ⟨hw,b,u,e,h1,h2⟩:=absLoad_sound (id:=id) (ev:=ev) (r:=r) (T:=T) (x:=x) h hc hm (hr x)
  exact Good.pure hm (by simp [execOp,Instr.loadAt,e,Instr.sureAddr,h1]) h2 hw
 case store T x y =>
  split at h
  ·rename_i t vs ht hvs
   split at h
   ·rename_i i off he
    split at h <;> cases h
    rename_i cs hH
    obtain ⟨hc1,hc2,hc3,hc4,hc5⟩:=hc
    have h0:=(hr x).strip hc1
    rw [he] at h0
    have hy:=cells_rel ((hr y).strip hc2) hvs
    obtain ⟨b,hb,e⟩:=h0.ptr_inv
    have hblk:=hm.blk i _ hH
    obtain ⟨n,us,T',hn,hheap,hl,hrel⟩:=hblk
    rw [hb] at hn; cases hn
    obtain ⟨w',us',r1,r2,r3,r4,r5,r6,hio⟩:=run_storeCells_at (P:=P) b off (ev y).cells.toList 0 us w hheap (by simp [hy.1]; omega) (cells_scalar hy hc4)
    have hshape:w'.shape? b=w.shape? b:=by rw [shape?_cells r4,shape?_cells hheap,r5]
    have hk:=Kept.store (hm.own i _ b hH rfl hb) r2 r3 hshape hio
    have hnew:BlkRel S w' ρ (some b) (.cells (splice cs off vs)):=by
     refine ⟨b,us',T',rfl,r4,?_,fun k c v h1 h2 => ?_⟩
     ·rw [r5,hl,splice_length (by omega)]
     ·rw [splice_get (by omega)] at h1
      rw [r6 k] at h2
      simp only [Nat.add_zero,Array.length_toList,hy.1] at h2
      split at h1
      ·rename_i hin
       rw [if_pos (by omega)] at h2
       refine (hy.2 _ c v h1 (by simpa using h2)).mono hk (fun _ e=>e) (Names.le.refl _)
      ·rename_i hin
       rw [if_neg (by omega)] at h2
       exact (hrel k c v h1 h2).mono hk (fun _ e=>e) (Names.le.refl _)
    refine ⟨ρ,undef,w',.inr ⟨?_,rfl⟩,Names.le.refl _,hk,(hm.store hH rfl hb r2 r3 hshape hnew hio).less (fun _ h=>h.1),.top _,fun n e' => ?_⟩
    ·simp [execOp,Instr.storeAt,e,Instr.sureAddr,storeVar,run_sizeOf_ty ht,hy.1,hc3,r1]
    ·by_cases hnb:n=b
     ·subst hnb; rw [hheap] at e'; cases e'
     ·rw [r3 n hnb]; exact e'
   ·rename_i i s n j he
    split at h
    ·rename_i sz xs hH
     split at h <;> cases h
     rename_i hs
     subst hs
     obtain ⟨hc1,hc2,hc3,hc4,hc5,hc6,hc7⟩:=hc
     have h0:=(hr x).strip hc1
     rw [he] at h0
     have hy:=cells_rel ((hr y).strip hc2) hvs
     obtain ⟨b,hb,e⟩:=h0.rptr_inv
     obtain ⟨hpos,hz,hblk⟩:=hm.blk i _ hH
     rcases hblk with ⟨h1,-⟩ | ⟨n',us,T',hn',hheap,hrel⟩
     ·rw [hb] at h1; cases h1
     rw [hb] at hn'; cases hn'
     have hxn:xs[n]? = some (xs.getD n []):=by simp [List.getD,hc6]
     have hlen:=hz n _ hxn
     have hsz:n*s+j+vs.length≤us.size:=by
      by_cases h00:vs.length=0
      ·have hpos':0<s:=hpos
       obtain ⟨v,hv,-⟩:=hrel n 0 _ ((xs.getD n [])[0]'(by omega)) hxn (by simp)
       obtain ⟨v',hv',-⟩:=hrel n (s-1) _ ((xs.getD n [])[s-1]'(by omega)) hxn (by simp)
       have:=(Array.getElem?_eq_some_iff.1 hv').1
       omega
      ·obtain ⟨v,hv,-⟩:=hrel n (j+vs.length-1) _ ((xs.getD n [])[j+vs.length-1]'(by omega)) hxn (by simp)
       have:=(Array.getElem?_eq_some_iff.1 hv).1
       omega
     obtain ⟨w',us',r1,r2,r3,r4,r5,r6,hio⟩:=run_storeCells_at (P:=P) b (n*s+j) (ev y).cells.toList 0 us w hheap (by simp [hy.1]; omega) (cells_scalar hy hc4)
     have hshape:w'.shape? b=w.shape? b:=by rw [shape?_cells r4,shape?_cells hheap,r5]
     have hk:=Kept.store (hm.own i _ b hH rfl hb) r2 r3 hshape hio
     have hnew:BlkRel S w' ρ (some b) (.row s (xs.set n (splice (xs.getD n []) j vs))):=by
      refine ⟨hpos,fun k cs hk' => ?_,.inr ⟨b,us',T',rfl,r4,fun k q cs c h1 h2 => ?_⟩⟩
      ·rw [List.getElem?_set] at hk'
       split at hk'
       ·rename_i hkn
        cases hk'
        rw [splice_length (by omega)]; exact hlen
       ·exact hz k cs hk'
      ·rw [List.getElem?_set] at h1
       split at h1
       ·rename_i hkn
        subst hkn
        cases h1
        rw [splice_get (by omega)] at h2
        split at h2
        ·rename_i hin
         have hlt:q-j<(ev y).cells.size:=by rw [hy.1]; omega
         refine ⟨(ev y).cells[q-j],?_,?_⟩
         ·rw [r6]
          simp only [Nat.add_zero,Array.length_toList,hy.1]
          rw [if_pos (by omega),show n*s+q-(n*s+j)=q-j by omega]
          simp [hlt]
         ·have hcl:=(hy.2 _ c ((ev y).cells[q-j]) h2 (by simp [hlt])).closed (List.all_eq_true.1 hc5 c (List.mem_of_getElem? h2))
          exact hcl.mono hk (fun _ e=>e) (Names.le.refl _)
        ·rename_i hin
         obtain ⟨v,hv,hvr⟩:=hrel n q _ c hxn h2
         refine ⟨v,?_,hvr.mono hk (fun _ e=>e) (Names.le.refl _)⟩
         rw [r6]
         simp only [Nat.add_zero,Array.length_toList,hy.1]
         rw [if_neg (by omega)]; exact hv
       ·rename_i hkn
        obtain ⟨v,hv,hvr⟩:=hrel k q _ c h1 h2
        refine ⟨v,?_,hvr.mono hk (fun _ e=>e) (Names.le.refl _)⟩
        rw [r6]
        simp only [Nat.add_zero,Array.length_toList,hy.1]
        rw [if_neg ?_]
        ·exact hv
        ·have hq:q<s:=by rw [← hz k _ h1]; exact (List.getElem?_eq_some_iff.1 h2).1
         rintro ⟨g1,g2⟩
         rcases Nat.lt_or_gt_of_ne hkn with hlt | hgt
         ·have:=mul_lt_off (j:=j+vs.length-1) (sz:=s) hlt
          by_cases h00:vs.length=0
          ·omega
          ·have:=this (by omega); omega
         ·have:=mul_lt_off (j:=q) (sz:=s) hgt hq
          omega
     refine ⟨ρ,undef,w',.inr ⟨?_,rfl⟩,Names.le.refl _,hk,(hm.store hH rfl hb r2 r3 hshape hnew hio).less (fun _ h=>h.1),.top _,fun n e' => ?_⟩
     ·simp [execOp,Instr.storeAt,e,Instr.sureAddr,storeVar,run_sizeOf_ty ht,hy.1,hc3,r1]
     ·by_cases hnb:n=b
      ·subst hnb; rw [hheap] at e'; cases e'
      ·rw [r3 n hnb]; exact e'
    ·cases h
   ·cases h
  ·cases h
end
end Go.Proofs.Ytoncoofmijjgeaa.Sep
namespace Go.Proofs.Ytoncoofmijjgeaa.Sep
open Go
set_option linter.unusedVariables false
set_option linter.unusedSimpArgs false
def fillAbs (place:Nat→Option (Nat × Nat)):List AV→List (Nat × AV)→Option (Prop × List AV)
 | cells,[]=>some (True,cells)
 | cells,(i,x) :: rest =>
  match place i,cellsOf? x with
  | some (off,size),some cs=>(fillAbs place (splice cells off cs) rest).map fun q=>((cs.length=size∧off+size≤cells.length)∧q.1,q.2)
  | _,_=>none
def fillRows (sz:Nat):List (List AV)→List (Nat × AV)→Option (Prop × List (List AV))
 | xs,[]=>some (True,xs)
 | xs,(i,x) :: rest =>
  match cellsOf? x with
  | some cs=>(fillRows sz (xs.set i cs) rest).map fun q=>((cs.length=sz∧i<xs.length∧cs.all AV.closed=true)∧q.1,q.2)
  | none=>none
def contentOf (sz:Nat) (H:Nat→Option Blk):AV→Option (Prop × List (List AV) × List Nat)
 | .lit (.slice _ 0 _)=>some (True,[],[])
 | .vsl s ys=>if s=sz then some (True,ys,[]) else none
 | .vec j s lo n =>
  match H j with
  | some (.row s' xs)=>if s=sz∧s'=sz then some (lo+n≤xs.length,(xs.drop lo).take n,[j]) else none
  | _=>none
 | _=>none
def sliceEnds (r:Operand→AV) (len:Nat) (lo hi:Option Operand):Option (Prop × Nat × Nat) :=
 match lo,hi with
 | none,none=>some (True,0,len)
 | some l,none =>
  match strip (r l) with
  | .lit (.int _ n)=>some (grd (r l)=true∧0≤n∧n≤len,n.toNat,len)
  | _=>none
 | none,some h =>
  match strip (r h) with
  | .lit (.int _ n)=>some (grd (r h)=true∧0≤n∧n≤len,0,n.toNat)
  | _=>none
 | some l,some h =>
  match strip (r l),strip (r h) with
  | .lit (.int _ n),.lit (.int _ m)=>some (grd (r l)=true∧grd (r h)=true∧0≤n∧n≤m∧m≤len,n.toNat,m.toNat)
  | _,_=>none
def absMake (P:Program) (o:Op) (id:Nat) (r:Operand→AV) (H:Nat→Option Blk):Option Out :=
 match o with
 | .build T parts =>
  match tyOf P T with
  | some t =>
   match t.kind with
   | 1=>(fillAbs (fun i=>(t.offs[i]?).bind fun p=>(tyOf P p.2).map fun u=>(p.1,u.size)) t.zero (parts.toList.map fun p=>(p.1,strip (r p.2)))).map fun q => { cond:=(t.offs.all fun p=>(tyOf P p.2).isSome)=true∧(∀ p ∈ parts,grd (r p.2)=true)∧q.1,val:=.agg q.2 }
   | 2 =>
    match tyOf P t.elem with
    | some e=>(fillAbs (fun i=>some (i*e.size,e.size)) t.zero (parts.toList.map fun p=>(p.1,strip (r p.2)))).map fun q => { cond:=(∀ p ∈ parts,grd (r p.2)=true)∧q.1,val:=.agg q.2 }
    | none=>none
   | _=>none
  | none=>none
 | .buildSlice T len parts =>
  match tyOf P T with
  | some t =>
   if t.kind=3 then
    match tyOf P t.elem with
    | some e=>(fillRows e.size (List.replicate len e.zero) (parts.toList.map fun p=>(p.1,strip (r p.2)))).map fun q =>
      { cond:=(∀ p ∈ parts,grd (r p.2)=true)∧e.zero.length=e.size∧0<e.size∧len*e.size≤2 ^ 24∧q.1,val:=.vec id e.size 0 len,wr:=[(id,.row e.size q.2)] }
    | none=>none
   else none
  | none=>none
 | .slice T x lo hi none =>
  match tyOf P T with
  | some t =>
   if t.kind=3 then
    match tyOf P t.elem,strip (r x) with
    | some e,.vsl sz xs=>if sz=e.size then (sliceEnds r xs.length lo hi).map fun q => { cond:=grd (r x)=true∧q.1,val:=.vsl sz ((xs.take q.2.2).drop q.2.1) } else none
    | some e,.vec i sz l n=>if sz=e.size then (sliceEnds r n lo hi).map fun q => { cond:=grd (r x)=true∧q.1,val:=.vec i sz (l+q.2.1) (q.2.2-q.2.1) } else none
    | _,_=>none
   else none
  | none=>none
 | .call { callee:=.builtin .append,args,argTypes } =>
  match args.toList,argTypes.toList with
  | [x,y],[T,U] =>
   match tyOf P T,tyOf P U with
   | some t,some u =>
    if t.kind=3∧u.kind=3 then
     match tyOf P t.elem with
     | some e =>
      match contentOf e.size H (strip (r y)) with
      | some (cy,ys,js) =>
       match strip (r x) with
       | .lit (.slice none 0 0)=>some { cond:=grd (r x)=true∧grd (r y)=true∧cy∧(ys.all fun cs=>cs.all AV.scalar)=true∧e.zero.length=e.size∧0<e.size∧0<e.bytes∧ys.length*e.bytes≤140737488355328,val:=.vec id e.size 0 ys.length,ri:=js,wr:=[(id,.row e.size ys)] }
       | .vec i s 0 n =>
        match H i with
        | some (.row s' xs) =>
         if s=e.size∧s'=e.size then
          some { cond:=grd (r x)=true∧grd (r y)=true∧cy∧(ys.all fun cs=>cs.all AV.scalar)=true∧e.zero.length=e.size∧i ∉ js∧n≤xs.length∧0<e.bytes∧(n+ys.length)*e.bytes≤140737488355328,val:=.vec id e.size 0 (n+ys.length),ri:=i :: js,wr:=[(i,.dead),(id,.row e.size (xs.take n ++ ys))] }
         else none
        | _=>none
       | _=>none
      | none=>none
     | none=>none
    else none
   | _,_=>none
  | _,_=>none
 | _=>none
section
variable {S : Nat → Prop} {ρ : Names} {P : Program} {w : World} {r : Operand → AV} {ev : Operand → Value}
theorem foldl_set (off:Nat):∀ (l:List Value) (k:Nat) (cells:Array Value),off+k+l.length≤cells.size →
  ((l.zipIdx k).foldl (fun cs p=>cs.setIfInBounds (off+p.2) p.1) cells).size=cells.size ∧
  ∀ t:Nat,((l.zipIdx k).foldl (fun cs p=>cs.setIfInBounds (off+p.2) p.1) cells)[t]? = if off+k≤t∧t<off+k+l.length then l[t-(off+k)]? else cells[t]? := by
 intro l
 induction l with
 | nil=>intro k cells _; exact ⟨rfl,fun t=>by rw [if_neg (by simp)]; rfl⟩
 | cons v l ih =>
  intro k cells hl
  simp at hl
  obtain ⟨h1,h2⟩:=ih (k+1) (cells.setIfInBounds (off+k) v) (by simp; omega)
  refine ⟨by simpa using h1,fun t => ?_⟩
  rw [List.zipIdx_cons,List.foldl_cons,h2 t]
  by_cases ht:t=off+k
  ·subst ht
   rw [if_neg (by omega),if_pos (by simp)]
   have:off+k<cells.size:=by omega
   simp [this]
  ·by_cases hc:off+(k+1)≤t∧t<off+(k+1)+l.length
   ·rw [if_pos hc,if_pos (by simp; omega)]
    rw [show t-(off+k)=(t-(off+(k+1)))+1 by omega]; simp
   ·rw [if_neg hc,if_neg (by simp; omega)]
    simp only [Array.getElem?_setIfInBounds]
    rw [if_neg (fun e=>ht e.symm)]
theorem fold_cells (off:Nat) (u:Array Value) (cells:Array Value) (h:off+u.size≤cells.size) :
  (u.zipIdx.foldl (fun cs (c,j)=>cs.setIfInBounds (off+j) c) cells).size=cells.size ∧
  ∀ t:Nat,(u.zipIdx.foldl (fun cs (c,j)=>cs.setIfInBounds (off+j) c) cells)[t]? = if off≤t∧t<off+u.size then u[t-off]? else cells[t]? := by
 have:=foldl_set off u.toList 0 cells (by simpa using h)
 rw [← Array.foldl_toList,Array.toList_zipIdx]
 simpa using this
theorem fill_sound (place:Nat→Option (Nat × Nat)):∀ (parts:List (Nat × Operand)) (cells:List AV) (vs:Array Value) {c:Prop} {cells':List AV},RelCs S w ρ cells vs →
  fillAbs place cells (parts.map fun p=>(p.1,strip (r p.2)))=some (c,cells')→c→(∀ p ∈ parts,Rel S w ρ (strip (r p.2)) (ev p.2)) →
  ∃ vs',Instr.fill place vs (parts.map fun p=>(p.1,ev p.2))=some vs'∧RelCs S w ρ cells' vs':=by
 intro parts
 induction parts with
 | nil=>intro cells vs c cells' h hf hc _; simp [fillAbs] at hf; obtain ⟨-,rfl⟩:=hf; exact ⟨vs,rfl,h⟩
 | cons p parts ih =>
  intro cells vs c cells' h hf hc hp
  simp only [List.map_cons,fillAbs] at hf
  split at hf
  ·rename_i off size cs hpl hcs
   simp only [Option.map_eq_some_iff,Prod.mk.injEq] at hf
   obtain ⟨⟨c',q⟩,hq,rfl,rfl⟩:=hf
   obtain ⟨⟨hl,ho⟩,hc'⟩:=hc
   have hr:=cells_rel (hp p (by simp)) hcs
   obtain ⟨f1,f2⟩:=fold_cells off (ev p.2).cells vs (by rw [hr.1,h.1]; omega)
   have hnew:RelCs S w ρ (splice cells off cs) ((ev p.2).cells.zipIdx.foldl (fun cs (c,j)=>cs.setIfInBounds (off+j) c) vs):=by
    refine ⟨by rw [f1,h.1,splice_length (by omega)],fun k c v h1 h2 => ?_⟩
    rw [splice_get (by omega)] at h1
    rw [f2 k,hr.1] at h2
    split at h1
    ·rename_i hin; rw [if_pos hin] at h2; exact hr.2 _ c v h1 h2
    ·rename_i hin; rw [if_neg hin] at h2; exact h.2 _ c v h1 h2
   obtain ⟨vs',g1,g2⟩:=ih _ _ hnew hq hc' (fun p' hp'=>hp p' (by simp [hp']))
   refine ⟨vs',?_,g2⟩
   simp only [List.map_cons,Instr.fill,hpl]
   rw [if_neg (by simp [hr.1,h.1]; omega)]
   exact g1
  ·cases hf
def RowRel (S:Nat→Prop) (w:World) (sz:Nat) (xs:List (List AV)) (vs:Array Value):Prop :=
 (∀ (k:Nat) cs,xs[k]? = some cs→cs.length=sz)∧∀ (k j:Nat) cs c,xs[k]? = some cs→cs[j]? = some c → ∃ v,vs[k*sz+j]? = some v∧Rel S w noNames c v
theorem RowRel.mono {S':Nat→Prop} {w':World} {sz:Nat} {xs:List (List AV)} {vs:Array Value} (h:RowRel S w sz xs vs) (hk:Kept S w w') (hS:∀ b,S b→S' b):RowRel S' w' sz xs vs :=
 ⟨h.1,fun k j cs c h1 h2=>let ⟨v,hv,hr⟩:=h.2 k j cs c h1 h2; ⟨v,hv,hr.mono hk hS (Names.le.refl _)⟩⟩
theorem off_ne {a b sz i:Nat} (hi:i<sz) (h:a≠b):¬ (b*sz≤a*sz+i∧a*sz+i<b*sz+sz):=by
 rintro ⟨g1,g2⟩
 rcases Nat.lt_or_gt_of_ne h with hlt | hgt
 ·have:=mul_lt_off (sz:=sz) (j:=i) hlt hi; omega
 ·have:(b+1)*sz≤a*sz:=Nat.mul_le_mul_right _ hgt
  rw [Nat.add_mul] at this
  omega
theorem fillRows_sound (sz:Nat):∀ (parts:List (Nat × Operand)) (xs:List (List AV)) (vs:Array Value) {c:Prop} {xs':List (List AV)},RowRel S w sz xs vs→vs.size=xs.length*sz →
  fillRows sz xs (parts.map fun p=>(p.1,strip (r p.2)))=some (c,xs')→c→(∀ p ∈ parts,Rel S w ρ (strip (r p.2)) (ev p.2)) →
  ∃ vs',Instr.fill (fun i=>some (i*sz,sz)) vs (parts.map fun p=>(p.1,ev p.2))=some vs'∧RowRel S w sz xs' vs'∧vs'.size=vs.size∧xs'.length=xs.length:=by
 intro parts
 induction parts with
 | nil=>intro xs vs c xs' h hs hf hc _; simp [fillRows] at hf; obtain ⟨-,rfl⟩:=hf; exact ⟨vs,rfl,h,rfl,rfl⟩
 | cons p parts ih =>
  intro xs vs c xs' h hs hf hc hp
  simp only [List.map_cons,fillRows] at hf
  split at hf
  ·rename_i cs hcs
   simp only [Option.map_eq_some_iff,Prod.mk.injEq] at hf
   obtain ⟨⟨c',q⟩,hq,rfl,rfl⟩:=hf
   obtain ⟨⟨hl,ho,hcl⟩,hc'⟩:=hc
   have hr:=cells_rel (hp p (by simp)) hcs
   have hfit:p.1*sz+sz≤vs.size:=by
    have:(p.1+1)*sz≤xs.length*sz:=Nat.mul_le_mul_right _ ho
    rw [Nat.add_mul] at this; omega
   obtain ⟨f1,f2⟩:=fold_cells (p.1*sz) (ev p.2).cells vs (by rw [hr.1]; omega)
   have hnew:RowRel S w sz (xs.set p.1 cs) ((ev p.2).cells.zipIdx.foldl (fun cs (c,j)=>cs.setIfInBounds (p.1*sz+j) c) vs):=by
    refine ⟨fun k cs' hk => ?_,fun k j cs' c h1 h2 => ?_⟩
    ·rw [List.getElem?_set] at hk
     split at hk
     ·rename_i e; cases hk; exact hl
     ·exact h.1 k cs' hk
    ·rw [List.getElem?_set] at h1
     split at h1
     ·rename_i e
      subst e
      cases h1
      have hj:j<sz:=by rw [← hl]; exact (List.getElem?_eq_some_iff.1 h2).1
      have hjlt:j<(ev p.2).cells.size:=by rw [hr.1]; omega
      refine ⟨(ev p.2).cells[j],?_,(hr.2 j c ((ev p.2).cells[j]) h2 (by simp [hjlt])).closed (List.all_eq_true.1 hcl c (List.mem_of_getElem? h2))⟩
      rw [f2,hr.1,if_pos (by omega),Nat.add_sub_cancel_left]
      simp [hjlt]
     ·rename_i e
      obtain ⟨v,hv,hvr⟩:=h.2 k j cs' c h1 h2
      refine ⟨v,?_,hvr⟩
      have hj:j<sz:=by rw [← h.1 k _ h1]; exact (List.getElem?_eq_some_iff.1 h2).1
      rw [f2,hr.1,hl,if_neg (off_ne hj (fun x=>e x.symm))]
      exact hv
   obtain ⟨vs',g1,g2,g3,g4⟩:=ih _ _ hnew (by rw [f1,hs]; simp) hq hc' (fun p' hp'=>hp p' (by simp [hp']))
   refine ⟨vs',?_,g2,g3.trans f1,by simpa using g4⟩
   simp only [List.map_cons,Instr.fill]
   rw [if_neg (by simp [hr.1]; omega)]
   exact g1
  ·cases hf
theorem place_run {P:Program} {w:World} (fs:List Field):∀ (_:∀ f ∈ fs,∃ i,P.info? f.type=some i),(fs.mapM (m:=Sem) fun f=>do pure (f.offset,← sizeOf f.type)).run P w = .ok (fs.map fun f=>(f.offset,P.cellsOf f.type)) w:=by
 induction fs with
 | nil=>intro _; rfl
 | cons f fs ih =>
  intro h
  obtain ⟨i,hi⟩:=h f (by simp)
  have h1:=ih (fun g hg=>h g (by simp [hg]))
  have h2:(sizeOf f.type).run P w = .ok (P.cellsOf f.type) w:=by simp [sizeOf,typeInfo,hi,Program.cellsOf]
  rw [List.mapM_cons]
  simp only [Sem.run_bind,Sem.run_pure,Result.andThen_ok,h2,h1,List.map_cons]
theorem RelCs.zero {T:TypeId} {t:Ty} (ht:tyOf P T=some t) : ∃ z,(zeroValue T).run P w = .ok z w∧RelCs S w ρ t.zero z.cells:=by
 obtain ⟨z,hz,ez⟩:=run_zeroValue_ty ht w
 refine ⟨z,hz,by rw [ez]; simp,fun k c v h1 h2 => ?_⟩
 rw [ez] at h1
 simp at h1
 obtain ⟨u,hu,rfl⟩:=h1
 rw [h2] at hu; cases hu; exact .lit _
theorem zero_row {T:TypeId} {t:Ty} {z:Value} (ez:t.zero=z.cells.toList.map .lit) (hl:t.zero.length=t.size) (hp:0<t.size) (len:Nat) :
  RowRel S w t.size (List.replicate len t.zero) ((Array.range (len*t.size)).map (z.cells[· % z.cells.size]!)):=by
 have hzs:z.cells.size=t.size:=by rw [← hl,ez]; simp
 refine ⟨fun k cs h => ?_,fun k j cs c h1 h2 => ?_⟩
 ·rw [List.getElem?_replicate] at h
  split at h
  ·cases h; exact hl
  ·cases h
 ·rw [List.getElem?_replicate] at h1
  split at h1
  ·rename_i hk
   cases h1
   have hj:j<t.size:=by rw [← hl]; exact (List.getElem?_eq_some_iff.1 h2).1
   have hlt:k*t.size+j<len*t.size:=mul_lt_off hk hj
   refine ⟨z.cells[j]!,?_,?_⟩
   ·rw [Array.getElem?_map,Array.getElem?_range,if_pos hlt,Option.map_some,hzs,(div_mod_off hj).2]
   ·rw [ez] at h2
    simp at h2
    obtain ⟨u,hu,rfl⟩:=h2
    have:z.cells[j]! = u:=by simp [getElem!_def,hu]
    rw [this]; exact .lit _
  ·cases h1
theorem sliceEnds_sound {len cap:Nat} {lo hi:Option Operand} {c:Prop} {l h:Nat} (he:sliceEnds r len lo hi=some (c,l,h)) (hc:c) (hcap:len≤cap) (hr:∀ x,Rel S w ρ (r x) (ev x)) :
  (Instr.sliceBounds true len cap (lo.map ev) (hi.map ev) none).run P w = .ok (l,h,cap) w∧l≤h∧h≤len:=by
 unfold sliceEnds at he
 split at he
 ·cases he; exact ⟨by simp [Instr.sliceBounds],by omega,by omega⟩
 ·rename_i x
  split at he <;> cases he
  rename_i k n e
  have h0:=(hr x).strip hc.1
  rw [e] at h0
  obtain ⟨-,h1,h2⟩:=hc
  exact ⟨by simp [Instr.sliceBounds,Instr.sliceBound,h0.lit_inv,asIntOf,h1,h2],by omega,by omega⟩
 ·rename_i x
  split at he <;> cases he
  rename_i k n e
  have h0:=(hr x).strip hc.1
  rw [e] at h0
  obtain ⟨-,h1,h2⟩:=hc
  have h3:n≤(cap:Int):=by omega
  exact ⟨by simp [Instr.sliceBounds,Instr.sliceBound,h0.lit_inv,asIntOf,h1,h3],by omega,by omega⟩
 ·rename_i x y
  split at he <;> cases he
  rename_i k n k' m e e'
  obtain ⟨g1,g2,h1,h2,h3⟩:=hc
  have h0:=(hr x).strip g1
  rw [e] at h0
  have h0':=(hr y).strip g2
  rw [e'] at h0'
  have h4:m≤(cap:Int):=by omega
  have h5:0≤m:=by omega
  have h6:n≤max m 0:=by omega
  exact ⟨by simp [Instr.sliceBounds,Instr.sliceBound,h0.lit_inv,h0'.lit_inv,asIntOf,h1,h4,h5,h6],by omega,by omega⟩
end
end Go.Proofs.Ytoncoofmijjgeaa.Sep
namespace Go.Proofs.Ytoncoofmijjgeaa.Sep
open Go
set_option linter.unusedVariables false
set_option linter.unusedSimpArgs false
section
variable {C : Ctx} {ρ : Names} {S : Nat → Prop} {H : Nat → Option Blk} {nx : Nat → Prop} {w : World} {id : Nat} {P : Program} {r : Operand → AV} {ev : Operand → Value}
theorem lt_of_row {sz n m t : Nat} (h : t < n * sz) (hn : n ≤ m) : t / sz < m ∧ t % sz < sz ∧ t / sz * sz + t % sz = t := by
  have h0 : 0 < sz := by rcases Nat.eq_zero_or_pos sz with e | e; · subst e; simp at h
                         · exact e
  have h1 : t / sz < n := (Nat.div_lt_iff_lt_mul h0).2 h
  exact ⟨by omega, Nat.mod_lt _ h0, Nat.div_add_mod' t sz⟩
theorem RowRel.cell {sz : Nat} {xs : List (List AV)} {vs : Array Value} (h : RowRel S w sz xs vs) {lo n t : Nat} (hn : lo + n ≤ xs.length) (ht : t < n * sz) :
    ∃ c v cs, xs[lo + t / sz]? = some cs ∧ cs[t % sz]? = some c ∧ vs[lo * sz + t]? = some v ∧ Rel S w noNames c v := by
  obtain ⟨h1, h2, h3⟩ := lt_of_row ht (Nat.le_refl n)
  have hk : lo + t / sz < xs.length := by omega
  have hx : xs[lo + t / sz]? = some xs[lo + t / sz] := by simp [hk]
  have hl := h.1 _ _ hx
  have hc : (xs[lo + t / sz])[t % sz]? = some ((xs[lo + t / sz])[t % sz]'(by omega)) := by simp
  obtain ⟨v, hv, hr⟩ := h.2 _ _ _ _ hx hc
  refine ⟨_, v, _, hx, hc, ?_, hr⟩
  rw [show (lo + t / sz) * sz + t % sz = lo * sz + t by rw [Nat.add_mul]; omega] at hv
  exact hv
theorem run_firstCells_fn {b off n c sz : Nat} (f : Nat → Value) (h : ∀ t, t < n * sz → w.cell? ⟨b, off + t, none⟩ = some (f t)) :
    (Builtin.firstCells sz n (.slice (some ⟨b, off, none⟩) n c)).run P w = .ok ((List.range (n * sz)).map f).toArray w := by
  simp only [Builtin.firstCells]
  exact run_loadCells w _ _ f (fun j hj => by rw [add_off]; exact h j hj)
theorem content_sound {sz : Nat} {y : AV} {v : Value} {cy : Prop} {ys : List (List AV)} {js : List Nat} (hm : Mem C ρ S H nx w) (h : contentOf sz H y = some (cy, ys, js)) (hc : cy) (hv : Rel S w ρ y v) :
    ∃ a c, v = .slice a ys.length c ∧ ∃ news : List Value, news.length = ys.length * sz ∧ (∀ w'' : World, w''.heap = w.heap → (Builtin.firstCells sz ys.length v).run P w'' = .ok news.toArray w'') ∧
      (∀ (k : Nat) cs, ys[k]? = some cs → cs.length = sz) ∧ (∀ (k j : Nat) cs c, ys[k]? = some cs → cs[j]? = some c → ∃ u, news[k * sz + j]? = some u ∧ Rel S w noNames c u) := by
  unfold contentOf at h
  split at h
  · cases h
    obtain rfl := hv.lit_inv
    rename_i a c
    exact ⟨a, c, rfl, [], by simp, fun w'' _ => by cases a <;> simp [Builtin.firstCells, loadCells, loadCellsFrom], fun k cs e => by simp at e, fun k j cs c e => by simp at e⟩
  · split at h <;> cases h
    rename_i hs
    have hs' := hs.symm
    subst hs'
    obtain ⟨a, c, rfl, hh⟩ := hv.vsl_inv
    by_cases h0 : 0 < ys.length
    · obtain ⟨b, off, rfl, hS, hcap, hz, vs, hcell, hr⟩ := hh h0
      refine ⟨_, c, rfl, (List.range (ys.length * sz)).map fun t => vs (t / sz) (t % sz), by simp, fun w'' hw => ?_, hz, fun k j cs d h1 h2 => ?_⟩
      · refine run_firstCells_fn _ (fun t ht => ?_)
        obtain ⟨g1, g2, g3⟩ := lt_of_row ht (Nat.le_refl _)
        have hx : ys[t / sz]? = some ys[t / sz] := by simp [g1]
        have hl := hz _ _ hx
        have := hcell (t / sz) (t % sz) _ ((ys[t / sz])[t % sz]'(by omega)) hx (by simp)
        rw [Nat.add_assoc, g3] at this
        simpa [World.cell?, hw] using this
      · have hj : j < sz := by rw [← hz k _ h1]; exact (List.getElem?_eq_some_iff.1 h2).1
        have hk : k < ys.length := (List.getElem?_eq_some_iff.1 h1).1
        have hlt := mul_lt_off (sz := sz) hk hj
        refine ⟨vs k j, ?_, hr k j cs d h1 h2⟩
        rw [List.getElem?_map, List.getElem?_range hlt]
        simp [div_mod_off hj]
    · have : ys = [] := by cases ys <;> simp_all
      subst this
      exact ⟨a, c, rfl, [], by simp, fun w'' _ => by cases a <;> simp [Builtin.firstCells, loadCells, loadCellsFrom], fun k cs e => by simp at e, fun k j cs c e => by simp at e⟩
  · rename_i j s lo n
    split at h
    · rename_i s' xs hH
      split at h <;> cases h
      rename_i hs
      obtain ⟨hs1, hs2⟩ := hs
      have hs1' := hs1.symm
      have hs2' := hs2.symm
      subst hs1'
      subst hs2'
      have hlen : ((xs.drop lo).take n).length = n := by simp; omega
      obtain ⟨hpos, hz, hblk⟩ := hm.blk j _ hH
      rcases hv.vec_inv with ⟨a, rfl, rfl⟩ | ⟨b, T, m, cap, hb, hsh, hcap, hl, rfl⟩
      · simp only [List.take_zero]
        exact ⟨a, 0, rfl, [], by simp, fun w'' _ => by cases a <;> simp [Builtin.firstCells, loadCells, loadCellsFrom], fun k cs e => by simp at e, fun k j cs c e => by simp at e⟩
      · rcases hblk with ⟨h1, -⟩ | ⟨n', vs, T', hn', hheap, hrel⟩
        · rw [hb] at h1; cases h1
        rw [hb] at hn'; cases hn'
        have hrow : RowRel S w sz xs vs := ⟨hz, hrel⟩
        rw [hlen]
        refine ⟨_, cap, rfl, (List.range (n * sz)).map fun t => vs.getD (lo * sz + t) undef, by simp, fun w'' hw => ?_, fun k cs h1 => ?_, fun k q cs d h1 h2 => ?_⟩
        · refine run_firstCells_fn _ (fun t ht => ?_)
          obtain ⟨c, v, cs, -, -, h3, -⟩ := hrow.cell hc ht
          have : w''.heap[b]? = some (.cells vs T' (0, 0)) := by rw [hw]; exact hheap
          rw [cell_of_heap this, h3]; simp [h3]
        · simp only [List.getElem?_take, List.getElem?_drop] at h1
          split at h1
          · exact hz _ _ h1
          · cases h1
        · simp only [List.getElem?_take, List.getElem?_drop] at h1
          split at h1
          · rename_i hk
            have hq : q < sz := by rw [← hz _ _ h1]; exact (List.getElem?_eq_some_iff.1 h2).1
            obtain ⟨v, hv', hvr⟩ := hrel _ q _ _ h1 h2
            refine ⟨v, ?_, hvr⟩
            have hlt := mul_lt_off (sz := sz) hk hq
            rw [List.getElem?_map, List.getElem?_range hlt]
            rw [Nat.add_mul, Nat.add_assoc] at hv'
            simp [hv']
          · cases h1
    · cases h
  · cases h
theorem news_scalar {sz : Nat} {ys : List (List AV)} {news : List Value} (hl : news.length = ys.length * sz) (hz : ∀ (k : Nat) cs, ys[k]? = some cs → cs.length = sz)
    (hr : ∀ (k j : Nat) cs c, ys[k]? = some cs → cs[j]? = some c → ∃ u, news[k * sz + j]? = some u ∧ Rel S w noNames c u) (hs : (ys.all fun cs => cs.all AV.scalar) = true) : ∀ v ∈ news, v.oneCell' = true := by
  intro v hv
  obtain ⟨t, ht⟩ := List.mem_iff_getElem?.1 hv
  have hlt : t < ys.length * sz := by rw [← hl]; exact (List.getElem?_eq_some_iff.1 ht).1
  obtain ⟨h1, h2, h3⟩ := lt_of_row hlt (Nat.le_refl _)
  have hx : ys[t / sz]? = some ys[t / sz] := by simp [h1]
  have hln := hz _ _ hx
  obtain ⟨u, hu, hrel⟩ := hr _ (t % sz) _ ((ys[t / sz])[t % sz]'(by omega)) hx (by simp)
  rw [h3, ht] at hu
  cases hu
  exact hrel.oneCell (List.all_eq_true.1 (List.all_eq_true.1 hs _ (List.getElem_mem h1)) _ (List.getElem_mem _))
theorem append_row {sz n : Nat} {xs ys : List (List AV)} {vs us : Array Value} {news : List Value} (hrow : RowRel S w sz xs vs) (hn : n ≤ xs.length) (hl : news.length = ys.length * sz) (hz : ∀ (k : Nat) cs, ys[k]? = some cs → cs.length = sz)
    (hr : ∀ (k j : Nat) cs c, ys[k]? = some cs → cs[j]? = some c → ∃ u, news[k * sz + j]? = some u ∧ Rel S w noNames c u)
    (hu1 : ∀ t, t < n * sz → us[t]? = vs[t]?) (hu2 : ∀ t, t < news.length → us[n * sz + t]? = news[t]?) : RowRel S w sz (xs.take n ++ ys) us := by
  have hlen : (xs.take n).length = n := by simp; omega
  refine ⟨fun k cs h => ?_, fun k j cs c h1 h2 => ?_⟩
  · rw [List.getElem?_append] at h
    split at h
    · rw [List.getElem?_take] at h
      split at h
      · exact hrow.1 _ _ h
      · cases h
    · exact hz _ _ h
  · rw [List.getElem?_append] at h1
    split at h1
    · rename_i hk
      rw [hlen] at hk
      rw [List.getElem?_take, if_pos hk] at h1
      have hj : j < sz := by rw [← hrow.1 _ _ h1]; exact (List.getElem?_eq_some_iff.1 h2).1
      obtain ⟨v, hv, hvr⟩ := hrow.2 k j cs c h1 h2
      exact ⟨v, by rw [hu1 _ (mul_lt_off hk hj)]; exact hv, hvr⟩
    · rename_i hk
      rw [hlen] at hk h1
      have hj : j < sz := by rw [← hz _ _ h1]; exact (List.getElem?_eq_some_iff.1 h2).1
      have hkl : k - n < ys.length := (List.getElem?_eq_some_iff.1 h1).1
      obtain ⟨v, hv, hvr⟩ := hr (k - n) j cs c h1 h2
      refine ⟨v, ?_, hvr⟩
      have := hu2 ((k - n) * sz + j) (by rw [hl]; exact mul_lt_off hkl hj)
      rw [show n * sz + ((k - n) * sz + j) = k * sz + j by rw [← Nat.add_assoc, ← Nat.add_mul]; congr 2; omega] at this
      rw [this]; exact hv
set_option maxHeartbeats 1000000 in
/-- 'append(s, x...)' at a slice of our own: its row, and what is behind. -/
theorem append_sound {T U : TypeId} {ty : TypeId} {e : Ty} {sv xv : Value} {n : Nat} {xs ys : List (List AV)} {ob : Option Nat} {i : Nat} {Hd : Nat → Option Blk}
    (hm : Mem C ρ S H nx w) (hid : nx id) (hT : P.underlying T = some (.slice (P.elem T))) (hU : ∃ u, P.underlying U = some (.slice u)) (hE : tyOf P (P.elem T) = some e) (hzl : e.zero.length = e.size) (hpos : 0 < e.size) (hb0 : 0 < e.bytes) (hfit : (n + ys.length) * e.bytes ≤ 140737488355328)
    {a : Option Addr} {c : Nat} (hx : xv = .slice a ys.length c) {news : List Value} (hl : news.length = ys.length * e.size) (hfirst : ∀ w'' : World, w''.heap = w.heap → (Builtin.firstCells e.size ys.length xv).run P w'' = .ok news.toArray w'')
    (hz : ∀ (k : Nat) cs, ys[k]? = some cs → cs.length = e.size) (hr : ∀ (k j : Nat) cs c, ys[k]? = some cs → cs[j]? = some c → ∃ u, news[k * e.size + j]? = some u ∧ Rel S w noNames c u) (hsc : ∀ v ∈ news, v.oneCell' = true)
    (hs : (n = 0 ∧ ob = none ∧ (∃ a, sv = .slice a 0 0) ∧ Hd = H) ∨ (∃ b T' m cap vs k, ob = some b ∧ ρ i = some b ∧ H i = some k ∧ k.live = true ∧ Hd = updH H i .dead ∧ w.heap[b]? = some (.cells vs T' (0, 0)) ∧ w.shape? b = some (T', m) ∧ cap * e.size ≤ m ∧ (n ≤ cap ∧ cap ≤ 9223372036854775807) ∧ n ≤ xs.length ∧ RowRel S w e.size xs vs ∧ sv = .slice (some ⟨b, 0, none⟩) n cap)) :
    ∃ ρ' v w', (Builtin.append_ #[T, U] ty #[sv, xv]).run P w = .ok v w' ∧ ρ.le ρ' ∧ Kept S w w' ∧ Mem C ρ' S (updH Hd id (.row e.size (xs.take n ++ ys))) (lessOne nx id) w' ∧ Rel S w' ρ' (.vec id e.size 0 (n + ys.length)) v ∧
      (∀ n : Nat, w.heap[n]? = some (.deferred (some [])) → w'.heap[n]? = some (.deferred (some []))) := by
  obtain ⟨u, hU⟩ := hU
  subst hx
  obtain ⟨i0, d, z, hi, hd, hzz, hsz, hby, hze, -⟩ := tyOf_inv hE
  have hHd : Mem C ρ S Hd nx w := by
    rcases hs with ⟨-, -, -, rfl⟩ | ⟨b, T', m, cap, vs, k, -, -, hk, -, rfl, -⟩
    · exact hm
    · exact hm.kill hk
  have hsv : ∃ sb cap, sv = .slice sb n cap ∧ n ≤ cap := by
    rcases hs with ⟨rfl, -, ⟨a, rfl⟩, -⟩ | ⟨b, T', m, cap, vs, k, -, -, -, -, -, -, -, -, h1, -, -, rfl⟩
    · exact ⟨_, _, rfl, Nat.le_refl _⟩
    · exact ⟨_, _, rfl, h1.1⟩
  obtain ⟨sb, cap, rfl, hncap⟩ := hsv
  by_cases hroom : n + ys.length ≤ cap
  · -- within the capacity
    rcases hs with ⟨rfl, -, ⟨a', e'⟩, rfl⟩ | ⟨b, T', m, cap', vs, k, hob, hb, hk, hlive, rfl, hheap, hsh, hcap, hcb, hnx, hrow, e'⟩
    · cases e'
      have h0 : ys = [] := by cases ys with | nil => rfl | cons _ _ => simp at hroom
      subst h0
      have hn0 : news = [] := by cases news with | nil => rfl | cons _ _ => simp at hl
      subst hn0
      refine ⟨ρ, .slice sb 0 0, w, ?_, Names.le.refl _, Kept.refl _ _, ?_, ?_, fun _ e => e⟩
      · have hf := hfirst w rfl
        simp only [List.length_nil] at hf
        cases sb <;> simp [Builtin.append_, run_underlying hT, run_underlying hU, sizeOf, typeInfo, hi, Builtin.lenOf, storeCells, ← hsz, hf]
      · have hHid := (hm.free id hid).1
        have hρid := (hm.free id hid).2
        refine hm.step (fun _ => False) (Nat.le_refl _) (fun _ _ e => e) (fun _ _ _ => rfl) (fun _ e => e.elim) (Names.le.refl _) (fun _ _ e => .inl ⟨_, e⟩) (fun _ e => e) (fun _ e => .inl e) ?_ ?_ ?_ ?_
        · intro j l e
          by_cases hj : j = id
          · subst hj; simp [updH] at e; subst e; exact .inr ⟨hpos, fun k cs e => by simp at e, .inl ⟨hρid, by simp⟩⟩
          · simp [updH, hj] at e; exact .inl ⟨e, fun b e' => ⟨e', fun x => x⟩⟩
        · intro j l c e hll e' hsS
          by_cases hj : j = id
          · subst hj; rw [hρid] at e'; cases e'
          · simp [updH, hj] at e; exact hm.own j l c e hll e' hsS
        · intro j1 j2 l1 l2 c e1 hl1 e2 hl2 r1 r2
          by_cases h1 : j1 = id
          · subst h1; rw [hρid] at r1; cases r1
          · by_cases h2 : j2 = id
            · subst h2; rw [hρid] at r2; cases r2
            · simp [updH, h1] at e1; simp [updH, h2] at e2
              exact hm.inj j1 j2 l1 l2 c e1 hl1 e2 hl2 r1 r2
        · rintro j ⟨hj, hne⟩
          simp [updH, hne, hm.free j hj]
      · simpa using Rel.vec0 (S := S) (w := w) (ρ := ρ) (i := id) (sz := e.size) (lo := 0) (a := sb)
    · cases e'
      have hms : m = vs.size := by rw [shape?_cells hheap] at hsh; cases hsh; rfl
      have hle : (n + ys.length) * e.size ≤ cap * e.size := Nat.mul_le_mul_right _ hroom
      rw [Nat.add_mul] at hle
      obtain ⟨w', cur', r1, r2, r3, r4, r5, r6, hio⟩ := run_storeCells_at (P := P) b (n * e.size) news 0 vs w hheap (by rw [hl]; omega) hsc
      have hshape : w'.shape? b = w.shape? b := by rw [shape?_cells r4, shape?_cells hheap, r5]
      have hS : ¬ S b := hm.own i k b hk hlive hb
      have hkept := Kept.store hS r2 r3 hshape hio
      have hnew : RowRel S w' e.size (xs.take n ++ ys) cur' := by
        refine (append_row hrow hnx hl hz hr (us := cur') (fun t ht => ?_) (fun t ht => ?_)).mono hkept (fun _ e => e)
        · rw [r6 t, if_neg (by omega)]
        · rw [r6, if_pos (by omega)]; congr 1; omega
      have hHid := (hm.free id hid).1
      have hρid := (hm.free id hid).2
      have hne : id ≠ i := fun e => by rw [e, hk] at hHid; cases hHid
      refine ⟨updN ρ id b, .slice (some ⟨b, 0, none⟩) (n + ys.length) cap, w', ?_, updN_le hρid, hkept, ?_, ?_, ?_⟩
      · have hf := hfirst w rfl
        simp [Builtin.append_, run_underlying hT, run_underlying hU, sizeOf, typeInfo, hi, Builtin.lenOf, hroom, ← hsz, hf, add_off, r1]
      · refine hm.step (fun c => c = b) (by omega) (shp_all hio fun c s e => ?_) (fun c _ hc => r3 c hc) (fun c e => .inl ⟨i, k, hk, hlive, e ▸ hb⟩) (updN_le hρid) ?_ (fun _ e => e) (fun _ e => .inl e) ?_ ?_ ?_ ?_
        · by_cases hc : c = b
          · subst hc; exact shape?_keep hshape e
          · exact shape?_keep (shape?_of_heap (r3 c hc)) e
        · intro j c e
          by_cases hj : j = id
          · subst hj; simp [updN] at e; subst e; exact .inl ⟨i, hb⟩
          · simp [updN, hj] at e; exact .inl ⟨_, e⟩
        · intro j l e
          by_cases hj : j = id
          · subst hj; simp [updH] at e; subst e; refine .inr ⟨hpos, hnew.1, .inr ⟨b, cur', T', by simp [updN], r4, hnew.2⟩⟩
          · simp [updH, hj] at e
            by_cases hji : j = i
            · subst hji; simp at e; subst e; exact .inr trivial
            · simp [hji] at e
              by_cases hll : l.live = true
              · refine .inl ⟨e, fun c e' => ?_⟩
                simp [updN, hj] at e'
                exact ⟨e', fun ec => hji (hm.inj j i l k b e hll hk hlive (ec ▸ e') hb)⟩
              · refine .inr ?_
                cases l with
                | dead => trivial
                | _ => simp [Blk.live] at hll
        · intro j l c e hll e' hsS
          by_cases hj : j = id
          · subst hj; simp [updN] at e'; subst e'; exact hS hsS
          · simp [updN, hj] at e'
            simp [updH, hj] at e
            by_cases hji : j = i
            · subst hji; simp at e; subst e; simp [Blk.live] at hll
            · simp [hji] at e; exact hm.own j l c e hll e' hsS
        · intro j1 j2 l1 l2 c e1 hl1 e2 hl2 r1 r2
          have key : ∀ j l, j ≠ id → updH (updH H i .dead) id (.row e.size (xs.take n ++ ys)) j = some l → l.live = true → j ≠ i ∧ H j = some l := fun j l hj e hl' => by
            simp [updH, hj] at e
            by_cases hji : j = i
            · subst hji; simp at e; subst e; simp [Blk.live] at hl'
            · simp [hji] at e; exact ⟨hji, e⟩
          by_cases h1 : j1 = id <;> by_cases h2 : j2 = id
          · rw [h1, h2]
          · obtain ⟨g1, g2⟩ := key j2 l2 h2 e2 hl2
            subst h1; simp [updN] at r1; simp [updN, h2] at r2; subst r1
            exact absurd (hm.inj j2 i l2 k b g2 hl2 hk hlive r2 hb) g1
          · obtain ⟨g1, g2⟩ := key j1 l1 h1 e1 hl1
            subst h2; simp [updN] at r2; simp [updN, h1] at r1; subst r2
            exact absurd (hm.inj j1 i l1 k b g2 hl1 hk hlive r1 hb) g1
          · obtain ⟨g1, g2⟩ := key j1 l1 h1 e1 hl1
            obtain ⟨g3, g4⟩ := key j2 l2 h2 e2 hl2
            simp [updN, h1] at r1; simp [updN, h2] at r2
            exact hm.inj j1 j2 l1 l2 c g2 hl1 g4 hl2 r1 r2
        · rintro j ⟨hj, hne'⟩
          have hji : j ≠ i := fun e => by subst e; rw [(hm.free j hj).1] at hk; cases hk
          simp [updH, updN, hne', hji, hm.free j hj]
      · have := Rel.vec (S := S) (w := w') (ρ := updN ρ id b) (i := id) (sz := e.size) (lo := 0) (b := b) (cap := cap) (len := n + ys.length) (by simp [updN]) (shape?_cells r4) (by rw [r5]; omega) ⟨hroom, hcb.2⟩
        simpa using this
      · intro q e'
        by_cases hqb : q = b
        · subst hqb; rw [hheap] at e'; cases e'
        · rw [r3 q hqb]; exact e'
  · -- a new array
    have hneed : cap < n + ys.length := by omega
    have h48 := growslice_fits hneed hfit
    rw [hby] at h48 hb0
    have hbne : i0.bytes ≠ 0 := by omega
    have holds : ∃ olds : List Value, olds.length = n * e.size ∧ (∀ w'' : World, w''.heap = w.heap → (Builtin.firstCells e.size n (.slice sb n cap)).run P w'' = .ok olds.toArray w'') ∧
        ∀ us : Array Value, (∀ t, t < n * e.size → us[t]? = olds[t]?) → (∀ t, t < news.length → us[n * e.size + t]? = news[t]?) → RowRel S w e.size (xs.take n ++ ys) us := by
      rcases hs with ⟨rfl, -, ⟨a', e'⟩, rfl⟩ | ⟨b, T', m, cap', vs, k, hob, hb, hk, hlive, rfl, hheap, hsh, hcap, -, hnx, hrow, e'⟩
      · cases e'
        refine ⟨[], by simp, fun w'' _ => by cases sb <;> simp [Builtin.firstCells, loadCells, loadCellsFrom], fun us _ h2 => ?_⟩
        have := append_row (S := S) (w := w) (n := 0) (xs := []) (vs := #[]) ⟨fun k cs h => by simp at h, fun k j cs c h => by simp at h⟩ (Nat.le_refl _) hl hz hr (us := us) (fun t ht => by simp at ht) h2
        simpa using this
      · cases e'
        refine ⟨(List.range (n * e.size)).map fun t => vs.getD t undef, by simp, fun w'' hw => ?_, fun us h1 h2 => ?_⟩
        · have := run_firstCells_fn (P := P) (w := w'') (b := b) (off := 0) (n := n) (c := cap) (sz := e.size) (fun t => vs.getD t undef) (fun t ht => by
            obtain ⟨c', v, cs', -, -, h3, -⟩ := hrow.cell (lo := 0) (n := n) (by omega) ht
            rw [cell_of_heap (by rw [hw]; exact hheap)]
            simp only [Nat.zero_mul, Nat.zero_add] at h3
            simp [h3])
          exact this
        · refine append_row hrow hnx hl hz hr (us := us) (fun t ht => ?_) h2
          obtain ⟨c', v, cs', -, -, h3, -⟩ := hrow.cell (lo := 0) (n := n) (by omega) ht
          simp only [Nat.zero_mul, Nat.zero_add] at h3
          rw [h1 t ht, List.getElem?_map, List.getElem?_range ht]
          simp [h3]
    obtain ⟨olds, hol, hofirst, hrow'⟩ := holds
    obtain ⟨w', hw'⟩ : ∃ w', w' = w.drew.alloc (.cells (olds.toArray ++ news.toArray ++ Builtin.zeroCells z.cells (grownCap w (n + ys.length) cap (P.elem T) - (n + ys.length))) (P.elem T)) := ⟨_, rfl⟩
    have hrun : (Builtin.append_ #[T, U] ty #[.slice sb n cap, .slice a ys.length c]).run P w = .ok (.slice (some ⟨w.heap.size, 0, none⟩) (n + ys.length) (grownCap w (n + ys.length) cap (P.elem T))) w' := by
      have hn : ¬ (n + ys.length ≤ cap) := hroom
      have h48' : ¬ (281474976710656 < Builtin.nextslicecap (n + ys.length) cap * i0.bytes) := by omega
      have hf := hfirst w.drew rfl
      have hfo := hofirst w.drew rfl
      rw [hsz] at hf hfo
      simp [Builtin.append_, run_underlying hT, run_underlying hU, sizeOf, typeInfo, zeroValue, hi, hzz, Builtin.lenOf, hn, hbne, h48', Question.forced, hf, hfo, newRow, grownCap, hw']
      congr 2
      apply Array.ext'
      simp [List.append_assoc]
    have hmd := hHd.drew
    have hidd : nx id := hid
    have hk' : Kept S w w' := by
      rw [hw']
      exact (Kept.drew S w).trans (Kept.alloc hmd.sin _) (fun _ e => e)
    have hcapB : grownCap w (n + ys.length) cap (P.elem T) ≤ 9223372036854775807 := by
      have h9 : n + ys.length ≤ 140737488355328 := Nat.le_trans (Nat.le_mul_of_pos_right _ (show 0 < e.bytes by omega)) (by omega)
      have e63 : (2 : Nat) ^ 63 = 9223372036854775808 := by decide
      unfold grownCap Question.cut
      simp only [e63]
      have := Nat.mod_lt (w.tape w.drawn (Question.appendCap (n + ys.length) cap (P.elem T))) (show 0 < 9223372036854775808 - (n + ys.length) by omega)
      omega
    have hcapn : n + ys.length ≤ grownCap w (n + ys.length) cap (P.elem T) := by
      exact Nat.le_add_right _ _
    have hrowN : RowRel S w e.size (xs.take n ++ ys) (olds.toArray ++ news.toArray ++ Builtin.zeroCells z.cells (grownCap w (n + ys.length) cap (P.elem T) - (n + ys.length))) := by
      refine hrow' _ (fun t ht => ?_) (fun t ht => ?_)
      · rw [Array.getElem?_append_left (by simp [hol]; omega), Array.getElem?_append_left (by simp [hol]; omega)]; simp
      · rw [Array.getElem?_append_left (by simp [hol]; omega), Array.getElem?_append_right (by simp [hol])]
        simp [hol]
    have hrow2 := hrowN.mono hk' (fun _ e => e)
    refine ⟨updN ρ id w.heap.size, _, w', hrun, updN_le (hm.free id hid).2, hk', ?_, ?_, ?_⟩
    · rw [hw'] at hrow2 ⊢
      exact hmd.alloc (i := id) hid ⟨hpos, hrow2.1, .inr ⟨w.heap.size, _, _, rfl, heap_alloc_at, hrow2.2⟩⟩
    · have hzc : z.cells.size = e.size := by rw [← hzl, hze]; simp
      have hcells := heap_alloc_at (w := w.drew) (o := .cells (olds.toArray ++ news.toArray ++ Builtin.zeroCells z.cells (grownCap w (n + ys.length) cap (P.elem T) - (n + ys.length))) (P.elem T))
      rw [← hw'] at hcells
      have := Rel.vec (S := S) (w := w') (ρ := updN ρ id w.heap.size) (i := id) (sz := e.size) (lo := 0) (b := w.heap.size) (cap := grownCap w (n + ys.length) cap (P.elem T)) (len := n + ys.length) (by simp [updN]) (shape?_cells hcells) (by
        simp only [Array.size_append, List.size_toArray, hol, hl, Builtin.zeroCells, Array.size_map, Array.size_range, hzc]
        rw [Nat.zero_mul, Nat.zero_add, ← Nat.add_mul, ← Nat.add_mul]
        exact Nat.mul_le_mul_right _ (by omega)) ⟨hcapn, hcapB⟩
      simpa using this
    · intro q e'
      rw [hw', heap_alloc_lt (by exact (Array.getElem?_eq_some_iff.1 e').1)]
      exact e'
theorem parts_rel {parts : Array (Nat × Operand)} (hg : ∀ p ∈ parts, grd (r p.2) = true) (hr : ∀ x, Rel S w ρ (r x) (ev x)) : ∀ p ∈ parts.toList, Rel S w ρ (strip (r p.2)) (ev p.2) :=
  fun p hp => (hr p.2).strip (hg p (by simpa using hp))
theorem run_fields {fs : Array Field} (h : ∀ f ∈ fs.toList, ∃ i, P.info? f.type = some i) : (fs.mapM (m := Sem) fun f => do pure (f.offset, ← sizeOf f.type)).run P w = .ok (fs.map fun f => (f.offset, P.cellsOf f.type)) w := by
  rw [Array.mapM_eq_mapM_toList]
  simp only [Sem.run_map, place_run fs.toList h, Result.andThen_ok]
  congr 1
  apply Array.ext'
  simp
set_option maxHeartbeats 2000000 in
theorem absMake_sound {o : Oper} {out : Out} (h : absMake P o.op id r H = some out) (hc : out.cond) (hm : Mem C ρ S H nx w) (hid : nx id) (hr : ∀ x, Rel S w ρ (r x) (ev x)) :
    Good C ρ S H nx w out id ((execOp ev o).run P w) := by
  obtain ⟨dst, op, ty, pos, after, guard⟩ := o
  cases op <;> simp only [absMake, reduceCtorEq] at h
  case build T parts =>
    split at h
    · rename_i t ht
      split at h
      · rename_i hk
        simp only [Option.map_eq_some_iff] at h
        obtain ⟨⟨c', cells'⟩, hf, rfl⟩ := h
        obtain ⟨hall, hg, hc'⟩ := hc
        obtain ⟨z, hz, hzr⟩ := RelCs.zero (S := S) (ρ := ρ) (w := w) ht
        obtain ⟨i, d, zz, hi, hd, -, -, -, -, -, h1, -⟩ := tyOf_inv ht
        obtain ⟨fs, rfl, hoffs⟩ := h1 hk
        have hinfo : ∀ f ∈ fs.toList, ∃ i u, P.info? f.type = some i ∧ tyOf P f.type = some u := fun f hf => by
          have := List.all_eq_true.1 hall (f.offset, f.type) (by rw [hoffs]; exact List.mem_map.2 ⟨f, hf, rfl⟩)
          obtain ⟨u, hu⟩ := Option.isSome_iff_exists.1 this
          obtain ⟨i, d, z, hi, -⟩ := tyOf_inv hu
          exact ⟨i, u, hi, hu⟩
        obtain ⟨vs', hfill, hrel⟩ := fill_sound (S := S) (w := w) (ρ := ρ) (ev := ev) (r := r) _ parts.toList t.zero z.cells hzr hf hc' (parts_rel hg hr)
        refine Good.pure (v := .agg vs') hm ?_ (.agg hrel.1 hrel.2) rfl
        have hpl : (fun (i : Nat) => (t.offs[i]?).bind fun (p : Nat × TypeId) => (tyOf P p.2).map fun u => (p.1, u.size)) = ((fs.map fun f => (f.offset, P.cellsOf f.type))[·]?) := by
          funext i
          rw [hoffs]
          simp only [List.getElem?_map, Array.getElem?_map, Array.getElem?_toList]
          cases hfi : fs[i]? with
          | none => rfl
          | some f =>
            obtain ⟨_, u, -, hu⟩ := hinfo f (by simpa using Array.mem_of_getElem? hfi)
            simp [hu, cellsOf_ty hu]
        rw [hpl] at hfill
        have hrun := run_fields (P := P) (w := w) (fs := fs) (fun f hf => let ⟨i, _, hi, _⟩ := hinfo f hf; ⟨i, hi⟩)
        have hmap : (parts.map fun p => (p.1, ev p.2)).toList = parts.toList.map fun p => (p.1, ev p.2) := by simp
        simp only [execOp, Instr.build, Sem.run_bind, hz, Result.andThen_ok, run_underlying hd, hrun, hmap, hfill, Sem.run_pure]
      · rename_i hk
        split at h
        · rename_i e he
          simp only [Option.map_eq_some_iff] at h
          obtain ⟨⟨c', cells'⟩, hf, rfl⟩ := h
          obtain ⟨hg, hc'⟩ := hc
          obtain ⟨z, hz, hzr⟩ := RelCs.zero (S := S) (ρ := ρ) (w := w) ht
          obtain ⟨i, d, zz, hi, hd, -, -, -, -, -, -, h2, -⟩ := tyOf_inv ht
          obtain rfl := h2 hk
          obtain ⟨vs', hfill, hrel⟩ := fill_sound (S := S) (w := w) (ρ := ρ) (ev := ev) (r := r) _ parts.toList t.zero z.cells hzr hf hc' (parts_rel hg hr)
          refine Good.pure (v := .agg vs') hm ?_ (.agg hrel.1 hrel.2) rfl
          have hmap : (parts.map fun p => (p.1, ev p.2)).toList = parts.toList.map fun p => (p.1, ev p.2) := by simp
          simp only [execOp, Instr.build, Sem.run_bind, hz, Result.andThen_ok, run_underlying hd, run_sizeOf_ty he, hmap, hfill, Sem.run_pure]
        · cases h
      · cases h
    · cases h
  case buildSlice T len parts =>
    split at h
    · rename_i t ht
      split at h
      · rename_i hk
        split at h
        · rename_i e he
          simp only [Option.map_eq_some_iff] at h
          obtain ⟨⟨c', xs'⟩, hf, rfl⟩ := h
          obtain ⟨hg, hzl, hpos, hlim, hc'⟩ := hc
          obtain ⟨i, d, zz, hi, hd, -, -, -, -, -, -, -, h3, -⟩ := tyOf_inv ht
          obtain rfl := h3 hk
          obtain ⟨z, hz, ez⟩ := run_zeroValue_ty he w
          have hrow0 := zero_row (S := S) (w := w) (T := t.elem) ez hzl hpos len
          obtain ⟨vs', hfill, hrow, hsz, hlen⟩ := fillRows_sound (S := S) (w := w) (ρ := ρ) (ev := ev) (r := r) e.size parts.toList _ _ hrow0 (by simp) hf hc' (parts_rel hg hr)
          have hmap : (parts.map fun p => (p.1, ev p.2)).toList = parts.toList.map fun p => (p.1, ev p.2) := by simp
          have hlim' : ¬ (len * e.size > 2 ^ 24) := by omega
          have hrun : (execOp ev ⟨dst, .buildSlice T len parts, ty, pos, after, guard⟩).run P w = .ok (.value (.slice (some ⟨w.heap.size, 0, none⟩) len len)) (w.alloc (.cells vs' t.elem)) := by
            simp only [execOp, Instr.buildSlice, Sem.run_bind, run_underlying hd, Result.andThen_ok, run_sizeOf_ty he, Sem.run_ite, if_neg hlim', Sem.run_pure]
            by_cases h0 : len * e.size = 0
            · have hl0 : len = 0 := by rcases Nat.mul_eq_zero.1 h0 with h | h; · exact h
                                       · omega
              subst hl0
              simp only [h0, if_true, Sem.run_pure, Result.andThen_ok]
              have hempty : ((Array.range 0).map fun x => (#[] : Array Value)[x % (#[] : Array Value).size]!) = (Array.range (0 * e.size)).map (z.cells[· % z.cells.size]!) := by simp
              rw [hempty]
              simp only [hmap, hfill, Sem.run_bind, newRow, run_newObj_alloc, Result.andThen_ok, Sem.run_pure]
            · simp only [h0, if_false, Sem.run_bind, hz, Result.andThen_ok, Sem.run_pure, hmap, hfill, newRow, run_newObj_alloc]
          have hk := Kept.alloc hm.sin (.cells vs' t.elem)
          have hrow' := hrow.mono hk (fun _ e => e)
          have hvs : vs'.size = len * e.size := by rw [hsz]; simp
          refine Good.alloc (k := .row e.size xs') hm hid hrun ⟨hpos, hrow'.1, .inr ⟨_, _, _, rfl, heap_alloc_at, hrow'.2⟩⟩ rfl ?_
          have := Rel.vec (S := S) (w := w.alloc (.cells vs' t.elem)) (ρ := updN ρ id w.heap.size) (i := id) (sz := e.size) (lo := 0) (b := w.heap.size) (cap := len) (len := len) (by simp [updN]) (shape?_cells heap_alloc_at) (by rw [hvs]; omega) ⟨Nat.le_refl _, by
            have h9 : len ≤ len * e.size := Nat.le_mul_of_pos_right _ hpos
            omega⟩
          simpa using this
        · cases h
      · cases h
    · cases h
  case slice T x lo hi mx =>
    cases mx with
    | some m => simp only [reduceCtorEq] at h
    | none =>
    simp only at h
    split at h
    · rename_i t ht
      split at h
      · rename_i hk
        obtain ⟨i0, d, zz, hi0, hd, -, -, -, -, -, -, -, h3, -⟩ := tyOf_inv ht
        obtain rfl := h3 hk
        split at h
        · rename_i e sz xs he hx
          split at h
          · rename_i hsz
            subst hsz
            simp only [Option.map_eq_some_iff] at h
            obtain ⟨⟨c', l, hh⟩, hq, rfl⟩ := h
            obtain ⟨hg, hc'⟩ := hc
            have h0 := (hr x).strip hg
            rw [hx] at h0
            obtain ⟨a, cap, e0, hne⟩ := h0.vsl_inv
            have hcap : xs.length ≤ cap := by
              by_cases h00 : 0 < xs.length
              · obtain ⟨b, off, -, -, hcap, -⟩ := hne h00; exact hcap
              · omega
            obtain ⟨hb, hlh, hhl⟩ := sliceEnds_sound (P := P) (w := w) (ρ := ρ) (S := S) hq hc' hcap hr
            refine Good.pure (v := .slice (if cap = l then a else a.map (·.add (l * e.size))) (hh - l) (cap - l)) hm ?_ ?_ rfl
            · simp [execOp, Instr.sliceAt, run_underlying hd, Instr.slice, e0, hb, run_sizeOf_ty he]
            · by_cases h00 : 0 < hh - l
              · obtain ⟨b, off, rfl, hS, -, hz, vs, hv, hvr⟩ := hne (by omega)
                rw [if_neg (by omega)]
                have hlen : ((xs.take hh).drop l).length = hh - l := by simp; omega
                have hget : ∀ (k : Nat) cs, ((xs.take hh).drop l)[k]? = some cs → xs[l + k]? = some cs := fun k cs h => by
                  rw [List.getElem?_drop, List.getElem?_take] at h
                  split at h
                  · exact h
                  · cases h
                have := Rel.vsl (S := S) (w := w) (ρ := ρ) (sz := e.size) (b := b) (off := off + l * e.size) (cap := cap - l) (xs := (xs.take hh).drop l) (fun k j => vs (l + k) j) (by omega) hS (fun k cs h => hz _ _ (hget k cs h))
                  (fun k j cs c h1 h2 => by have := hv _ _ _ _ (hget k cs h1) h2; rw [Nat.add_mul, ← Nat.add_assoc] at this; exact this) (fun k j cs c h1 h2 => hvr _ _ _ _ (hget k cs h1) h2)
                rw [hlen] at this
                simpa [add_off] using this
              · have hnil : (xs.take hh).drop l = [] := by simp; omega
                have hz0 : hh - l = 0 := by omega
                rw [hnil, hz0]
                exact .vslNil
          · cases h
        · rename_i e i sz l0 n he hx
          split at h
          · rename_i hsz
            subst hsz
            simp only [Option.map_eq_some_iff] at h
            obtain ⟨⟨c', l, hh⟩, hq, rfl⟩ := h
            obtain ⟨hg, hc'⟩ := hc
            have h0 := (hr x).strip hg
            rw [hx] at h0
            rcases h0.vec_inv with ⟨a, e0, rfl⟩ | ⟨b, T', m, cap, hb, hsh, hcap, hl, e0⟩
            · obtain ⟨hbd, hlh, hhl⟩ := sliceEnds_sound (P := P) (w := w) (ρ := ρ) (S := S) (cap := 0) hq hc' (Nat.le_refl _) hr
              refine Good.pure (v := .slice (if 0 = l then a else a.map (·.add (l * e.size))) (hh - l) (0 - l)) hm ?_ ?_ rfl
              · simp [execOp, Instr.sliceAt, run_underlying hd, Instr.slice, e0, hbd, run_sizeOf_ty he]
              · have h1 : hh - l = 0 := by omega
                have h2 : 0 - l = 0 := by omega
                simp only [h1, h2]
                exact .vec0
            · obtain ⟨hbd, hlh, hhl⟩ := sliceEnds_sound (P := P) (w := w) (ρ := ρ) (S := S) (cap := cap) hq hc' hl.1 hr
              refine Good.pure (v := .slice (if cap = l then some ⟨b, l0 * e.size, none⟩ else (some (⟨b, l0 * e.size, none⟩ : Addr)).map (·.add (l * e.size))) (hh - l) (cap - l)) hm ?_ ?_ rfl
              · simp [execOp, Instr.sliceAt, run_underlying hd, Instr.slice, e0, hbd, run_sizeOf_ty he]
              · by_cases hcl : cap = l
                · have h1 : hh - l = 0 := by omega
                  have h2 : cap - l = 0 := by omega
                  simp only [h1, h2]
                  exact .vec0
                · rw [if_neg hcl]
                  have := Rel.vec (S := S) (w := w) (ρ := ρ) (i := i) (sz := e.size) (lo := l0 + l) (b := b) (cap := cap - l) (len := hh - l) hb hsh (by
                    rw [← Nat.add_mul, show l0 + l + (cap - l) = l0 + cap by omega, Nat.add_mul]; exact hcap) (by omega)
                  simpa [add_off, Nat.add_mul] using this
          · cases h
        · cases h
      · cases h
    · cases h
  case call cl =>
    obtain ⟨callee, args, argTypes⟩ := cl
    cases callee with
    | value f => simp at h
    | invoke a b => simp at h
    | builtin b =>
      cases b <;> simp only [reduceCtorEq] at h
      split at h
      · rename_i x y T U ha hT
        obtain rfl := arr2 ha
        obtain rfl := arr2 hT
        split at h
        · rename_i t u ht hu
          split at h
          · rename_i hk
            obtain ⟨i0, d, zz, hi0, hd, -, -, -, -, -, -, -, h3, -⟩ := tyOf_inv ht
            obtain rfl := h3 hk.1
            obtain ⟨i0', d', zz', hi0', hd', -, -, -, -, -, -, -, h3', -⟩ := tyOf_inv hu
            obtain rfl := h3' hk.2
            have hel : P.elem T = t.elem := by simp [Program.elem, hd]
            have hdT : P.underlying T = some (.slice (P.elem T)) := by rw [hel]; exact hd
            split at h
            · rename_i e he
              rw [← hel] at he
              split at h
              · rename_i cy ys js hcont
                have hrun : ∀ {v w'}, (Builtin.append_ #[T, U] ty #[ev x, ev y]).run P w = .ok v w' → (execOp ev ⟨dst, .call ⟨.builtin .append, #[x, y], #[T, U]⟩, ty, pos, after, guard⟩).run P w = .ok (.value v) w' := fun h => by
                  simp [execOp, resolve, invoke, builtin, h]
                split at h
                · rename_i hx
                  cases h
                  obtain ⟨g1, g2, g3, g4, g5, g6, g7, g8⟩ := hc
                  have h0 := (hr x).strip g1
                  rw [hx] at h0
                  obtain ⟨a, c, ey, news, k1, k2, k3, k4⟩ := content_sound (P := P) hm hcont g3 ((hr y).strip g2)
                  obtain ⟨ρ', v, w', r1, r2, r3, r4, r5, r6⟩ := append_sound (P := P) (U := U) (ty := ty) (n := 0) (xs := []) (ob := none) (i := 0) (Hd := H) hm hid hdT ⟨_, hd'⟩ he g5 g6 g7 (by simpa using g8) ey k1 k2 k3 k4 (news_scalar k1 k3 k4 g4) (.inl ⟨rfl, rfl, ⟨none, h0.lit_inv⟩, rfl⟩)
                  refine ⟨ρ', v, w', .inl (hrun r1), r2, r3, ?_, by simpa using r5, r6⟩
                  simpa using r4
                · rename_i i s n hx
                  split at h
                  · rename_i s' xs hH
                    split at h <;> cases h
                    rename_i hs
                    obtain ⟨hs1, hs2⟩ := hs
                    subst hs1
                    subst hs2
                    obtain ⟨g1, g2, g3, g4, g5, g6, g7, g8, g9⟩ := hc
                    have h0 := (hr x).strip g1
                    rw [hx] at h0
                    obtain ⟨a, c, ey, news, k1, k2, k3, k4⟩ := content_sound (P := P) hm hcont g3 ((hr y).strip g2)
                    obtain ⟨hpos, hz, hblk⟩ := hm.blk i _ hH
                    have hkilled : Mem C ρ S (updH H i .dead) nx w := hm.kill hH
                    rcases h0.vec_inv with ⟨a', e0, rfl⟩ | ⟨b, T', m, cap, hb, hsh, hcap, hl, e0⟩
                    · obtain ⟨ρ', v, w', r1, r2, r3, r4, r5, r6⟩ := append_sound (P := P) (U := U) (ty := ty) (n := 0) (xs := []) (ob := none) (i := 0) (Hd := updH H i .dead) hkilled hid hdT ⟨_, hd'⟩ he g5 hpos g8 (by simpa using g9) ey k1 k2 k3 k4 (news_scalar k1 k3 k4 g4) (.inl ⟨rfl, rfl, ⟨a', e0⟩, rfl⟩)
                      refine ⟨ρ', v, w', .inl (hrun r1), r2, r3, ?_, by simpa using r5, r6⟩
                      simpa using r4
                    · rcases hblk with ⟨h1, -⟩ | ⟨n', vs, T'', hn', hheap, hrel⟩
                      · rw [hb] at h1; cases h1
                      rw [hb] at hn'; cases hn'
                      have hTT : T'' = T' := by rw [shape?_cells hheap] at hsh; cases hsh; rfl
                      subst hTT
                      simp only [Nat.zero_mul, Nat.zero_add] at hcap e0
                      obtain ⟨ρ', v, w', r1, r2, r3, r4, r5, r6⟩ := append_sound (P := P) (U := U) (ty := ty) (n := n) (xs := xs) (ob := some b) (i := i) (Hd := updH H i .dead) hm hid hdT ⟨_, hd'⟩ he g5 hpos g8 g9 ey k1 k2 k3 k4 (news_scalar k1 k3 k4 g4)
                        (.inr ⟨b, T'', m, cap, vs, _, rfl, hb, hH, rfl, rfl, hheap, hsh, hcap, hl, g7, ⟨hz, hrel⟩, e0⟩)
                      exact ⟨ρ', v, w', .inl (hrun r1), r2, r3, r4, r5, r6⟩
                  · cases h
                · cases h
              · cases h
            · cases h
          · cases h
        · cases h
      · cases h
end
end Go.Proofs.Ytoncoofmijjgeaa.Sep
namespace Go.Proofs.Ytoncoofmijjgeaa.Sep
open Go
def absMore (P:Program) (o:Op) (id:Nat) (r:Operand→AV) (H:Nat→Option Blk):Option Out :=
 match o with
 | .indexAddr T x i =>
  match tyOf P T,strip (r x),strip (r i) with
  | some t,.ptr k 0,.lit (.int _ n) =>
   match tyOf P t.elem,H k with
   | some e,some (.row sz _)=>if t.kind=2∧e.size=sz then some { cond:=grd (r x)=true∧grd (r i)=true∧0≤n∧n<t.len,val:=.rptr k sz n.toNat 0,ri:=[k] } else none
   | _,_=>none
  | _,_,_=>none
 | .index T x i =>
  match tyOf P T,strip (r x),strip (r i) with
  | some t,.lit (.string s),.lit (.int _ n)=>if t.kind=6 then some { cond:=grd (r x)=true∧grd (r i)=true∧0≤n∧n<s.size,val:=.lit (.int .u8 (s.data.toList.getD n.toNat 0).toNat) } else none
  | _,_,_=>none
 | .slice T x none (some h) none =>
  match tyOf P T,strip (r x),strip (r h) with
  | some t,.lit (.slice none 0 0),.lit (.int _ n)=>if t.kind=3∧(tyOf P t.elem).isSome=true then some { cond:=grd (r x)=true∧grd (r h)=true∧n=0,val:=.lit (.slice none 0 0) } else none
  | _,_,_=>none
 | .makeSlice T l c =>
  match tyOf P T,strip (r l),strip (r c) with
  | some t,.lit (.int .i64 n),.lit (.int .i64 m) =>
   match tyOf P t.elem with
   | some e=>if t.kind=3∧0<e.size∧e.zero.length=e.size then some { cond:=grd (r l)=true∧grd (r c)=true∧0≤n∧n≤m∧m≤140737488355328∧m*e.bytes≤140737488355328,val:=.vec id e.size 0 n.toNat,wr:=[(id,.row e.size (List.replicate n.toNat e.zero))] } else none
   | none=>none
  | _,_,_=>none
 | .call { callee:=.builtin .cap,args,argTypes } =>
  match args.toList,argTypes.toList with
  | [x],[T] =>
   match tyOf P T,strip (r x) with
   | some t,.lit (.slice _ _ c)=>if t.kind=3 then some { cond:=grd (r x)=true,val:=I c } else none
   | _,_=>none
  | _,_=>none
 | .call { callee:=.builtin .append,args,argTypes } =>
  match args.toList,argTypes.toList with
  | [x,y],[T,U] =>
   match tyOf P T,tyOf P U,strip (r x),strip (r y) with
   | some t,some u,.lit (.slice none 0 0),.lit (.int .i64 n) =>
    match tyOf P t.elem with
    | some e=>if t.kind=3∧u.kind=5∧0<e.size∧0<e.bytes∧e.zero.length=e.size then some { cond:=grd (r x)=true∧grd (r y)=true∧0≤n∧n≤140737488355328∧n*e.bytes≤140737488355328,val:=.vec id e.size 0 n.toNat,wr:=[(id,.row e.size (List.replicate n.toNat e.zero))] } else none
    | none=>none
   | _,_,_,_=>none
  | _,_=>none
 | _=>none
section
variable {S : Nat → Prop} {ρ : Names} {P : Program} {w : World} {r : Operand → AV} {ev : Operand → Value} {C : Ctx} {H : Nat → Option Blk} {nx : Nat → Prop} {id : Nat}
theorem grownCap_le {w:World} {n c:Nat} {T:TypeId} (h:n≤140737488355328):grownCap w n c T≤9223372036854775807:=by
 have e63:(2:Nat) ^ 63=9223372036854775808:=by decide
 unfold grownCap Question.cut
 simp only [e63]
 have:=Nat.mod_lt (w.tape w.drawn (Question.appendCap n c T)) (show 0<9223372036854775808-n by omega)
 omega
theorem Good.newRow {out:Out} {res:Result Next} {e:Ty} {T:TypeId} {n c:Nat} {vs:Array Value} {xs:List (List AV)} {w1:World} (hm:Mem C ρ S H nx w1) (hk0:Kept S w w1) (hid:nx id) (hpos:0<e.size) (hnc:n≤c∧c≤9223372036854775807) (hvs:vs.size=c*e.size)
  (hdk:∀ n:Nat,w.heap[n]? = some (.deferred (some []))→w1.heap[n]? = some (.deferred (some []))) (hrow:RowRel S w e.size xs vs)
  (hr:res = .ok (.value (.slice (some ⟨w1.heap.size,0,none⟩) n c)) (w1.alloc (.cells vs T))) (hw:out.wr=[(id,.row e.size xs)]) (hv:out.val = .vec id e.size 0 n):Good C ρ S H nx w out id res:=by
 have hk1:Kept S w1 (w1.alloc (.cells vs T)):=Kept.alloc hm.sin _
 have hk':Kept S w (w1.alloc (.cells vs T)):=hk0.trans hk1 (fun _ e=>e)
 have hrow2:=hrow.mono hk' (fun _ e=>e)
 have hcells:=heap_alloc_at (w:=w1) (o:=.cells vs T)
 refine ⟨updN ρ id w1.heap.size,_,_,.inl hr,updN_le (hm.free id hid).2,hk',?_,?_,fun q e' => ?_⟩
 ·rw [hw]
  exact hm.alloc (i:=id) hid ⟨hpos,hrow2.1,.inr ⟨w1.heap.size,_,_,rfl,heap_alloc_at,hrow2.2⟩⟩
 ·rw [hv]
  have:=Rel.vec (S:=S) (w:=w1.alloc (.cells vs T)) (ρ:=updN ρ id w1.heap.size) (i:=id) (sz:=e.size) (lo:=0) (b:=w1.heap.size) (cap:=c) (len:=n) (by simp [updN]) (shape?_cells hcells) (by omega) hnc
  simpa using this
 ·have h1:=hdk q e'
  rw [heap_alloc_lt (by exact (Array.getElem?_eq_some_iff.1 h1).1)]
  exact h1
theorem Good.pureNil {out:Out} {res:Result Next} {sz:Nat} {xs:List (List AV)} (hm:Mem C ρ S H nx w) (hid:nx id) (hpos:0<sz) (hr:res = .ok (.value (.slice none 0 0)) w) (hx:xs=[]) (hw:out.wr=[(id,.row sz xs)]) (hv:out.val = .vec id sz 0 0):Good C ρ S H nx w out id res:=by
 subst hx
 have hHid:=(hm.free id hid).1
 have hρid:=(hm.free id hid).2
 refine ⟨ρ,_,w,.inl hr,Names.le.refl _,Kept.refl _ _,?_,by rw [hv]; exact .vec0,fun _ e=>e⟩
 rw [hw]
 refine hm.step (fun _=>False) (Nat.le_refl _) (fun _ _ e=>e) (fun _ _ _=>rfl) (fun _ e=>e.elim) (Names.le.refl _) (fun _ _ e=>.inl ⟨_,e⟩) (fun _ e=>e) (fun _ e=>.inl e) ?_ ?_ ?_ ?_
 ·intro j l e
  by_cases hj:j=id
  ·subst hj; simp [updH] at e; subst e; exact .inr ⟨hpos,fun k cs e=>by simp at e,.inl ⟨hρid,by simp⟩⟩
  ·simp [updH,hj] at e; exact .inl ⟨e,fun b e'=>⟨e',fun x=>x⟩⟩
 ·intro j l c e hll e' hsS
  by_cases hj:j=id
  ·subst hj; rw [hρid] at e'; cases e'
  ·simp [updH,hj] at e; exact hm.own j l c e hll e' hsS
 ·intro j1 j2 l1 l2 c e1 hl1 e2 hl2 r1 r2
  by_cases h1:j1=id
  ·subst h1; rw [hρid] at r1; cases r1
  ·by_cases h2:j2=id
   ·subst h2; rw [hρid] at r2; cases r2
   ·simp [updH,h1] at e1; simp [updH,h2] at e2
    exact hm.inj j1 j2 l1 l2 c e1 hl1 e2 hl2 r1 r2
 ·rintro j ⟨hj,hne⟩
  simp [updH,hne,hm.free j hj]
theorem zero_prefix {T:TypeId} {t:Ty} {z:Value} (ez:t.zero=z.cells.toList.map .lit) (hl:t.zero.length=t.size) (hp:0<t.size) {n c:Nat} (hnc:n≤c) :
  RowRel S w t.size (List.replicate n t.zero) ((Array.range (c*t.size)).map (z.cells[· % z.cells.size]!)):=by
 obtain ⟨h1,h2⟩:=zero_row (S:=S) (w:=w) (T:=T) ez hl hp c
 refine ⟨fun k cs e=>h1 k cs ?_,fun k j cs x e=>h2 k j cs x ?_⟩
 ·rw [List.getElem?_replicate] at e ⊢
  split at e
  ·rw [if_pos (by omega)]; exact e
  ·cases e
 ·rw [List.getElem?_replicate] at e ⊢
  split at e
  ·rw [if_pos (by omega)]; exact e
  ·cases e
set_option maxHeartbeats 2000000 in
theorem absMore_sound {o:Oper} {out:Out} (h:absMore P o.op id r H=some out) (hc:out.cond) (hm:Mem C ρ S H nx w) (hid:nx id) (hr:∀ x,Rel S w ρ (r x) (ev x)) :
  Good C ρ S H nx w out id ((execOp ev o).run P w):=by
 obtain ⟨dst,op,ty,pos,after,guard⟩:=o
 unfold absMore at h
 split at h
 ·rename_i T x i ho
  simp only at ho
  subst ho
  split at h
  ·rename_i t k ik n ht hx hi'
   split at h
   ·rename_i e sz xs he hk
    split at h
    ·rename_i hkk
     obtain ⟨hk2,rfl⟩:=hkk
     cases h
     obtain ⟨c1,c2,c3,c4⟩:=hc
     obtain ⟨i0,d,zz,hi,hd,-,-,-,-,-,-,h2,-⟩:=tyOf_inv ht
     obtain rfl:=h2 hk2
     have h0:=(hr x).strip c1
     rw [hx] at h0
     obtain ⟨b,hb,e0⟩:=h0.ptr_inv
     have hi0:=(hr i).strip c2
     rw [hi'] at hi0
     refine Good.pure (v:=.pointer (some ⟨b,n.toNat*e.size,none⟩)) hm ?_ (by simpa using Rel.rptr (S:=S) (w:=w) (sz:=e.size) (n:=n.toNat) (j:=0) hb) rfl
     simp [execOp,Instr.indexAt,run_underlying hd,e0,hi0.lit_inv,asIntOf,Instr.sureAddr,c3,c4,run_sizeOf_ty he,add_off]
    ·cases h
   ·cases h
  ·cases h
 ·rename_i T x i ho
  simp only at ho
  subst ho
  split at h
  ·rename_i t s ik n ht hx hi'
   split at h
   ·rename_i hk
    cases h
    obtain ⟨c1,c2,c3,c4⟩:=hc
    obtain ⟨i0,d,zz,hi,hd,-,-,-,-,-,-,-,-,-,-,h6⟩:=tyOf_inv ht
    obtain rfl:=h6 hk
    have h0:=(hr x).strip c1
    rw [hx] at h0
    have hi0:=(hr i).strip c2
    rw [hi'] at hi0
    have hlt:n.toNat<s.size:=by omega
    refine Good.pure (v:=.int .u8 (s.data.toList.getD n.toNat 0).toNat) hm ?_ (.lit _) rfl
    have hb:s[n.toNat]? = some s[n.toNat]:=by simp [hlt]
    have hb':s.data.toList.getD n.toNat 0=s[n.toNat]:=by
     have hl:n.toNat<s.data.toList.length:=by simpa using hlt
     have:=List.getElem?_eq_getElem hl
     rw [List.getD_eq_getElem?_getD,this]
     rfl
    rw [hb']
    simp [execOp,Instr.index,run_underlying hd,h0.lit_inv,hi0.lit_inv,asIntOf,c3,hb]
   ·cases h
  ·cases h
 ·rename_i T x hh ho
  simp only at ho
  subst ho
  split at h
  ·rename_i t ik n ht hx hi'
   split at h
   ·rename_i hk
    cases h
    obtain ⟨hk,hel⟩:=hk
    obtain ⟨e,he⟩:=Option.isSome_iff_exists.1 hel
    obtain ⟨c1,c2,rfl⟩:=hc
    obtain ⟨i0,d,zz,hi,hd,-,-,-,-,-,-,-,h3,-⟩:=tyOf_inv ht
    obtain rfl:=h3 hk
    have h0:=(hr x).strip c1
    rw [hx] at h0
    have hi0:=(hr hh).strip c2
    rw [hi'] at hi0
    refine Good.pure (v:=.slice none 0 0) hm ?_ (.lit _) rfl
    simp [execOp,Instr.sliceAt,run_underlying hd,Instr.slice,h0.lit_inv,hi0.lit_inv,Instr.sliceBounds,Instr.sliceBound,asIntOf,run_sizeOf_ty he]
   ·cases h
  ·cases h
 ·rename_i T l c ho
  simp only at ho
  subst ho
  split at h
  ·rename_i t n m ht hl hc'
   split at h
   ·rename_i e he
    split at h
    ·rename_i hkk
     obtain ⟨hk3,hpos,hzl⟩:=hkk
     cases h
     obtain ⟨c1,c2,c3,c4,c5,c6⟩:=hc
     obtain ⟨i0,d,zz,hi,hd,-,-,-,-,-,-,-,h3,-⟩:=tyOf_inv ht
     obtain rfl:=h3 hk3
     obtain ⟨i1,d1,z,hi1,hd1,hzz,hsz,hby,hze,-⟩:=tyOf_inv he
     have h0:=(hr l).strip c1
     rw [hl] at h0
     have hi0:=(hr c).strip c2
     rw [hc'] at hi0
     have w1:IntKind.wrap .i64 n=n:=by simp [IntKind.wrap,IntKind.bits]; omega
     have w2:IntKind.wrap .i64 m=m:=by simp [IntKind.wrap,IntKind.bits]; omega
     have n1:¬ m<0:=by omega
     have n2:¬ n<0:=by omega
     have n3:¬ m<n:=by omega
     have hby':(e.bytes:Int)=i1.bytes:=by rw [hby]
     have n4:¬ (281474976710656<(i1.bytes:Int)*m):=by
      rw [← hby',Int.mul_comm]; omega
     have hzc:z.cells.size=e.size:=by rw [← hzl,hze]; simp
     refine Good.newRow (c:=m.toNat) (vs:=(Array.range (m.toNat*e.size)).map (z.cells[· % z.cells.size]!)) (T:=t.elem) hm (Kept.refl _ _) hid hpos ⟨by omega,by omega⟩ (by simp) (fun _ e=>e) (zero_prefix (T:=t.elem) hze hzl hpos (by omega)) ?_ rfl rfl
     by_cases m0:m.toNat=0
     ·simp [execOp,Instr.makeSlice,run_underlying hd,h0.lit_inv,hi0.lit_inv,asInt,asIntOf,newRow,typeInfo,hi1,w1,w2,n1,n2,n3,n4,sizeOf,zeroValue,m0]
      congr 2
      apply Array.ext'
      simp
     ·have hne:¬ m.toNat*i1.size=0:=fun e0=>by
       rcases Nat.mul_eq_zero.1 e0 with e0 | e0
       ·exact m0 e0
       ·omega
      simp [execOp,Instr.makeSlice,run_underlying hd,h0.lit_inv,hi0.lit_inv,asInt,asIntOf,newRow,typeInfo,hi1,w1,w2,n1,n2,n3,n4,sizeOf,zeroValue,hzz,hne]
      rw [hsz]
    ·cases h
   ·cases h
  ·cases h
 ·rename_i args argTypes ho
  simp only at ho
  subst ho
  split at h
  ·rename_i x T ha hT
   obtain rfl:=arr1 ha
   obtain rfl:=arr1 hT
   split at h
   ·rename_i t a n c ht hx
    split at h
    ·rename_i hk
     cases h
     obtain ⟨i0,d,zz,hi,hd,-,-,-,-,-,-,-,h3,-⟩:=tyOf_inv ht
     obtain rfl:=h3 hk
     have h0:=(hr x).strip hc
     rw [hx] at h0
     refine Good.pure (v:=.int .i64 c) hm ?_ (.lit _) rfl
     simp [execOp,resolve,invoke,builtin,Builtin.cap_,run_underlying hd,h0.lit_inv,goInt]
    ·cases h
   ·cases h
  ·cases h
 ·rename_i args argTypes ho
  simp only at ho
  subst ho
  split at h
  ·rename_i x y T U ha hT
   obtain rfl:=arr2 ha
   obtain rfl:=arr2 hT
   split at h
   ·rename_i t u n ht hu hx hy
    split at h
    ·rename_i e he
     split at h
     ·rename_i hkk
      obtain ⟨hk3,hk5,hpos,hb0,hzl⟩:=hkk
      cases h
      obtain ⟨c1,c2,c3,c4,c5⟩:=hc
      obtain ⟨i0,d,zz,hi,hd,-,-,-,-,-,-,-,h3,-⟩:=tyOf_inv ht
      obtain rfl:=h3 hk3
      obtain ⟨i0',d',zz',hi',hd',-,-,-,-,-,-,-,-,-,h5,-⟩:=tyOf_inv hu
      obtain rfl:=h5 hk5
      obtain ⟨i1,d1,z,hi1,hd1,hzz,hsz,hby,hze,-⟩:=tyOf_inv he
      have h0:=(hr x).strip c1
      rw [hx] at h0
      have hi0:=(hr y).strip c2
      rw [hy] at hi0
      have w1:IntKind.wrap .i64 n=n:=by simp [IntKind.wrap,IntKind.bits]; omega
      have n1:¬ n<0:=by omega
      have hby':(e.bytes:Int)=i1.bytes:=by rw [hby]
      have n4:¬ (281474976710656<n*(i1.bytes:Int)):=by rw [← hby']; omega
      have hzc:z.cells.size=e.size:=by rw [← hzl,hze]; simp
      by_cases hn0:n=0
      ·subst hn0
       refine Good.pureNil (sz:=e.size) hm hid hpos ?_ (by simp) rfl rfl
       simp [execOp,resolve,invoke,builtin,Builtin.append_,run_underlying hd,run_underlying hd',sizeOf,typeInfo,hi1,h0.lit_inv,hi0.lit_inv,asInt,asIntOf,w1]
      ·have hnn:((n.toNat:Nat):Int)=n:=Int.toNat_of_nonneg c3
       have hpos':0<n.toNat:=by omega
       have hfit:n.toNat*e.bytes≤140737488355328:=by
        have:((n.toNat*e.bytes:Nat):Int)≤140737488355328:=by rw [Int.natCast_mul,hnn]; exact c5
        omega
       have h48:Builtin.nextslicecap n.toNat 0*e.bytes≤281474976710656:=growslice_fits hpos' hfit
       rw [hby] at h48 hb0
       have hbne:i1.bytes≠0:=by omega
       have h48':¬ (281474976710656<Builtin.nextslicecap n.toNat 0*i1.bytes):=by omega
       have hszne:¬ (n.toNat*i1.size=0):=fun e0=>by
        rcases Nat.mul_eq_zero.1 e0 with e0 | e0 <;> omega
       have hn2:¬ (9223372036854775807<n.toNat):=by omega
       have hrow:RowRel S w e.size (List.replicate n.toNat e.zero) (Builtin.zeroCells z.cells n.toNat ++ Builtin.zeroCells z.cells (grownCap w n.toNat 0 t.elem-n.toNat)):=by
        have:=zero_prefix (S:=S) (w:=w) (T:=t.elem) hze hzl hpos (Nat.le_refl n.toNat)
        refine ⟨this.1,fun k j cs x g1 g2 => ?_⟩
        obtain ⟨v,v1,v2⟩:=this.2 k j cs x g1 g2
        refine ⟨v,?_,v2⟩
        have hlt:=(Array.getElem?_eq_some_iff.1 v1).1
        simp only [Array.size_map,Array.size_range] at hlt
        rw [Array.getElem?_append_left (by simp [Builtin.zeroCells,hzc]; exact hlt)]
        simpa [Builtin.zeroCells,hzc] using v1
       refine Good.newRow (w1:=w.drew) (c:=grownCap w n.toNat 0 t.elem) (vs:=Builtin.zeroCells z.cells n.toNat ++ Builtin.zeroCells z.cells (grownCap w n.toNat 0 t.elem-n.toNat)) (T:=t.elem) hm.drew (Kept.drew S w) hid hpos ⟨Nat.le_add_right _ _,grownCap_le (by omega)⟩ ?_ (fun _ e=>e) hrow ?_ rfl rfl
       ·have hle:n.toNat≤grownCap w n.toNat 0 t.elem:=Nat.le_add_right _ _
        simp only [Array.size_append,Builtin.zeroCells,Array.size_map,Array.size_range,hzc]
        rw [← Nat.add_mul]
        congr 1
        omega
       ·simp [execOp,resolve,invoke,builtin,Builtin.append_,run_underlying hd,run_underlying hd',sizeOf,typeInfo,zeroValue,hzz,hi1,h0.lit_inv,hi0.lit_inv,asInt,asIntOf,w1,n1,n4,hbne,h48',hszne,Question.forced,newRow,grownCap,Builtin.firstCells]
        rw [if_neg (by omega),if_neg (by omega)]
     ·cases h
    ·cases h
   ·cases h
  ·cases h
 ·cases h
end
theorem absMore_local {P:Program} {r r':Operand→AV} {H H':Nat→Option Blk} {o:Op} {id:Nat} {out:Out} (h:absMore P o id r H=some out) (hr:∀ x ∈ o.operands,r' x=r x) (hH:∀ i ∈ out.ri,H' i=H i):absMore P o id r' H'=some out:=by
 cases o
 case indexAddr T x i =>
  have h1:r' x=r x:=hr x (by simp [Op.operands])
  have h2:r' i=r i:=hr i (by simp [Op.operands])
  unfold absMore at h ⊢
  simp only at h ⊢
  rw [h1,h2]
  split at h
  ·rename_i t k ik n ht hx hi'
   split at h
   ·rename_i e sz xs he hk
    split at h
    ·rename_i hkk
     cases h
     have h3:H' k=some (.row sz xs):=by rw [hH k (by simp)]; exact hk
     simp only [he,h3,hkk,and_self,if_true]
    ·cases h
   ·cases h
  ·cases h
 case index T x i =>
  have h1:r' x=r x:=hr x (by simp [Op.operands])
  have h2:r' i=r i:=hr i (by simp [Op.operands])
  unfold absMore at h ⊢
  simp only at h ⊢
  rw [h1,h2]
  exact h
 case slice T x lo hi m =>
  unfold absMore at h ⊢
  cases lo with
  | some l=>cases h
  | none =>
   cases hi with
   | none=>cases h
   | some y =>
    cases m with
    | some m=>cases h
    | none =>
     have h1:r' x=r x:=hr x (by simp [Op.operands])
     have h2:r' y=r y:=hr y (by simp [Op.operands])
     simp only at h ⊢
     rw [h1,h2]
     exact h
 case makeSlice T l c =>
  have h1:r' l=r l:=hr l (by simp [Op.operands])
  have h2:r' c=r c:=hr c (by simp [Op.operands])
  unfold absMore at h ⊢
  simp only at h ⊢
  rw [h1,h2]
  exact h
 case call cl =>
  obtain ⟨callee,args,argTypes⟩:=cl
  have hargs:∀ x ∈ args,r' x=r x:=fun x hx=>hr x (by simp only [Op.operands,Call.operands]; simp [hx])
  cases callee with
  | value f=>cases h
  | invoke a b=>cases h
  | builtin b =>
   cases b
   case cap =>
    unfold absMore at h ⊢
    simp only at h ⊢
    split at h
    ·rename_i x T ha hT
     have h1:r' x=r x:=hargs x (by rw [arr1 ha]; simp)
     rw [h1]
     exact h
    ·cases h
   case append =>
    unfold absMore at h ⊢
    simp only at h ⊢
    split at h
    ·rename_i x y T U ha hT
     have h1:r' x=r x:=hargs x (by rw [arr2 ha]; simp)
     have h2:r' y=r y:=hargs y (by rw [arr2 ha]; simp)
     rw [h1,h2]
     exact h
    ·cases h
   all_goals cases h
 all_goals cases h
end Go.Proofs.Ytoncoofmijjgeaa.Sep
namespace Go.Proofs.Ytoncoofmijjgeaa.Sep
open Go
set_option linter.unusedVariables false
set_option linter.unusedSimpArgs false
section
variable {P : Program} {r r' : Operand → AV} {H H' : Nat → Option Blk}
theorem absPure_local {o:Op} {q:Prop × AV} (h:absPure P o r=some q) (hr:∀ x ∈ o.operands,r' x=r x):absPure P o r'=some q:=by
 cases o <;> simp only [absPure,reduceCtorEq] at h ⊢
 case move x=>rw [hr x (by simp [Op.operands])]; exact h
 case assign x=>rw [hr x (by simp [Op.operands])]; exact h
 case pick c a b=>rw [hr a (by simp [Op.operands]),hr b (by simp [Op.operands]),hr c (by simp [Op.operands])]; exact h
 case fieldAddr T x f=>rw [hr x (by simp [Op.operands])]; exact h
 case nilCheck x=>rw [hr x (by simp [Op.operands])]; exact h
 case binOp op T x y U=>rw [hr x (by simp [Op.operands]),hr y (by simp [Op.operands])]; exact h
 case unOp op T x=>rw [hr x (by simp [Op.operands])]; exact h
 case convert T U x=>rw [hr x (by simp [Op.operands])]; exact h
 case makeFunc f first cap =>
  have h1:∀ x ∈ first,r' x=r x:=fun x hx=>hr x (by simp [Op.operands,hx])
  have h2:∀ x ∈ cap,r' x=r x:=fun x hx=>hr x (by simp [Op.operands,hx])
  rw [← h]
  have e1:first.toList.map (fun x=>strip (r' x))=first.toList.map (fun x=>strip (r x)):=List.map_congr_left (fun x hx=>by rw [h1 x (by simpa using hx)])
  have e2:cap.toList.map (fun x=>strip (r' x))=cap.toList.map (fun x=>strip (r x)):=List.map_congr_left (fun x hx=>by rw [h2 x (by simpa using hx)])
  rw [e1,e2]
  congr 2
  exact propext ⟨fun ⟨a,b⟩=>⟨fun x hx=>by rw [← h1 x hx]; exact a x hx,fun x hx=>by rw [← h2 x hx]; exact b x hx⟩,
   fun ⟨a,b⟩=>⟨fun x hx=>by rw [h1 x hx]; exact a x hx,fun x hx=>by rw [h2 x hx]; exact b x hx⟩⟩
 case extract x k=>rw [hr x (by simp [Op.operands])]; exact h
 case field T x f=>rw [hr x (by simp [Op.operands])]; exact h
 case index T x i=>rw [hr x (by simp [Op.operands]),hr i (by simp [Op.operands])]; exact h
 case indexAddr T x i=>rw [hr x (by simp [Op.operands]),hr i (by simp [Op.operands])]; exact h
 case call cl =>
  obtain ⟨callee,args,argTypes⟩:=cl
  cases callee with
  | value f=>simp at h
  | invoke a b=>simp at h
  | builtin b =>
   have hx:∀ x ∈ args.toList,r' x=r x:=fun x hx=>hr x (by simp only [Op.operands,Call.operands]; simp; simpa using hx)
   cases b <;> simp only [reduceCtorEq] at h ⊢
   case len =>
    split at h
    ·rename_i x T ha hT
     rw [ha] at hx
     simp only [hx x (by simp)]
     exact h
    ·cases h
   case max =>
    split at h
    ·rename_i x y ha
     rw [ha] at hx
     simp only [hx x (by simp),hx y (by simp)]
     exact h
    ·rename_i x y z ha
     rw [ha] at hx
     simp only [hx x (by simp),hx y (by simp),hx z (by simp)]
     exact h
    ·cases h
   case min =>
    split at h
    ·rename_i x y ha
     rw [ha] at hx
     simp only [hx x (by simp),hx y (by simp)]
     exact h
    ·rename_i x y z ha
     rw [ha] at hx
     simp only [hx x (by simp),hx y (by simp),hx z (by simp)]
     exact h
    ·cases h
theorem absMem_local {o:Op} {id:Nat} {out:Out} (h:absMem P o id r H=some out) (hr:∀ x ∈ o.operands,r' x=r x) (hH:∀ i ∈ out.ri,H' i=H i):absMem P o id r' H'=some out:=by
 cases o <;> simp only [absMem,reduceCtorEq] at h ⊢
 case alloc T=>exact h
 case box T x=>rw [hr x (by simp [Op.operands])]; exact h
 case load T x =>
  rw [hr x (by simp [Op.operands])]
  split at h
  ·rename_i t ht
   try simp only [ht]
   split at h
   ·rename_i i off he
    try simp only [he]
    split at h <;> cases h
    rename_i cs hi
    simp only [hH i (by simp),hi]
   ·rename_i i s n j he
    try simp only [he]
    split at h
    ·rename_i sz xs hi
     split at h <;> cases h
     rename_i hs
     simp only [hH i (by simp),hi,hs,if_true]
    ·cases h
   ·rename_i s xs n j he
    try simp only [he]
    exact h
   ·cases h
  ·cases h
 case store T x y =>
  rw [hr x (by simp [Op.operands]),hr y (by simp [Op.operands])]
  split at h
  ·rename_i t vs ht hv
   try simp only [ht,hv]
   split at h
   ·rename_i i off he
    try simp only [he]
    split at h <;> cases h
    rename_i cs hi
    simp only [hH i (by simp),hi]
   ·rename_i i s n j he
    try simp only [he]
    split at h
    ·rename_i sz xs hi
     split at h <;> cases h
     rename_i hs
     simp only [hH i (by simp),hi,hs,if_true]
    ·cases h
   ·cases h
  ·cases h
theorem contentOf_local {sz:Nat} {x:AV} {q:Prop × List (List AV) × List Nat} (h:contentOf sz H x=some q) (hH:∀ i ∈ q.2.2,H' i=H i):contentOf sz H' x=some q:=by
 unfold contentOf at h ⊢
 split at h
 ·exact h
 ·exact h
 ·rename_i j s lo n
  split at h
  ·rename_i s' xs hj
   split at h <;> cases h
   rename_i hs
   simp only [hH j (by simp),hj,hs,and_self,if_true]
  ·cases h
 ·cases h
theorem sliceEnds_local {len:Nat} {lo hi:Option Operand} (hl:∀ x,lo=some x→r' x=r x) (hh:∀ x,hi=some x→r' x=r x):sliceEnds r' len lo hi=sliceEnds r len lo hi:=by
 unfold sliceEnds
 cases lo <;> cases hi <;> simp_all
theorem absMake_local {o:Op} {id:Nat} {out:Out} (h:absMake P o id r H=some out) (hr:∀ x ∈ o.operands,r' x=r x) (hH:∀ i ∈ out.ri,H' i=H i):absMake P o id r' H'=some out:=by
 cases o <;> simp only [absMake,reduceCtorEq] at h ⊢
 case build T parts =>
  have hp:∀ p ∈ parts,r' p.2=r p.2:=fun p hp=>hr p.2 (by simp only [Op.operands]; simp; exact ⟨p.1,hp⟩)
  have e1:parts.toList.map (fun p=>(p.1,strip (r' p.2)))=parts.toList.map (fun p=>(p.1,strip (r p.2))):=List.map_congr_left (fun p hx=>by rw [hp p (by simpa using hx)])
  have e2:(∀ p ∈ parts,grd (r' p.2)=true)=(∀ p ∈ parts,grd (r p.2)=true):=propext ⟨fun a p hx=>by rw [← hp p hx]; exact a p hx,fun a p hx=>by rw [hp p hx]; exact a p hx⟩
  rw [e1,e2]; exact h
 case buildSlice T len parts =>
  have hp:∀ p ∈ parts,r' p.2=r p.2:=fun p hp=>hr p.2 (by simp only [Op.operands]; simp; exact ⟨p.1,hp⟩)
  have e1:parts.toList.map (fun p=>(p.1,strip (r' p.2)))=parts.toList.map (fun p=>(p.1,strip (r p.2))):=List.map_congr_left (fun p hx=>by rw [hp p (by simpa using hx)])
  have e2:(∀ p ∈ parts,grd (r' p.2)=true)=(∀ p ∈ parts,grd (r p.2)=true):=propext ⟨fun a p hx=>by rw [← hp p hx]; exact a p hx,fun a p hx=>by rw [hp p hx]; exact a p hx⟩
  rw [e1,e2]; exact h
 case slice T x lo hi mx =>
  cases mx with
  | some m=>cases h
  | none =>
  have h1:=hr x (by simp [Op.operands])
  have h2:∀ len,sliceEnds r' len lo hi=sliceEnds r len lo hi:=fun len=>sliceEnds_local (fun y hy=>hr y (by subst hy; simp [Op.operands])) (fun y hy=>hr y (by subst hy; simp [Op.operands]))
  simp only [h1,h2] at h ⊢
  exact h
 case call cl =>
  obtain ⟨callee,args,argTypes⟩:=cl
  cases callee with
  | value f=>simp at h
  | invoke a b=>simp at h
  | builtin b =>
   have hx:∀ x ∈ args.toList,r' x=r x:=fun x hx=>hr x (by simp only [Op.operands,Call.operands]; simp; simpa using hx)
   cases b <;> simp only [reduceCtorEq] at h ⊢
   split at h
   ·rename_i x y T U ha hT
    rw [ha] at hx
    simp only [hx x (by simp),hx y (by simp)]
    split at h
    ·rename_i t u ht hu
     try simp only [ht,hu]
     split at h
     ·rename_i hk
      try simp only [hk,and_self,if_true]
      split at h
      ·rename_i e he
       try simp only [he]
       split at h
       ·rename_i cy ys js hc
        split at h
        ·rename_i he'
         cases h
         have:=contentOf_local (H':=H') hc (fun i hi=>hH i hi)
         simp only [this]
        ·rename_i i s n he'
         split at h
         ·rename_i s' xs hi
          split at h <;> cases h
          rename_i hs
          have:=contentOf_local (H':=H') hc (fun i hi=>hH i (by simp [hi]))
          simp only [this,hH i (by simp),hi,hs,and_self,if_true]
         ·cases h
        ·cases h
       ·cases h
      ·cases h
     ·cases h
    ·cases h
   ·cases h
def absOp (P:Program) (o:Op) (id:Nat) (r:Operand→AV) (H:Nat→Option Blk):Option Out :=
 match absPure P o r with
 | some q=>some { cond:=q.1,val:=q.2 }
 | none =>
  match absMem P o id r H with
  | some out=>some out
  | none=>absMake P o id r H
def AV.le (x y:AV):Prop:=∀ (S:Nat→Prop) (w:World) (ρ:Names) (v:Value),Rel S w ρ x v→Rel S w ρ y v
def Blk.le (x y:Blk):Prop:=(y.live=true→x.live=true)∧∀ (S:Nat→Prop) (w:World) (ρ:Names) (o:Option Nat),BlkRel S w ρ o x→BlkRel S w ρ o y
theorem AV.le.refl (x:AV):x.le x:=fun _ _ _ _ h=>h
theorem Blk.le.refl (x:Blk):x.le x:=⟨fun h=>h,fun _ _ _ _ h=>h⟩
def wrLe:List (Nat × Blk)→List (Nat × Blk)→Prop
 | [],[]=>True
 | p :: ps,q :: qs=>p.1=q.1∧p.2.le q.2∧wrLe ps qs
 | _,_=>False
structure Out.le (x y:Out):Prop where
 val:x.val.le y.val
 ri:y.ri=x.ri
 wr:wrLe x.wr y.wr
theorem wrLe.refl:∀ (l:List (Nat × Blk)),wrLe l l
 | []=>trivial
 | p :: ps=>⟨rfl,Blk.le.refl _,wrLe.refl ps⟩
def HLe (H H':Nat→Option Blk):Prop:=∀ i,(H i=none∧H' i=none) ∨ ∃ x y,H i=some x∧H' i=some y∧x.le y
theorem HLe.refl (H:Nat→Option Blk):HLe H H:=fun i=>by
 cases h:H i with
 | none=>exact .inl ⟨rfl,rfl⟩
 | some x=>exact .inr ⟨x,x,rfl,rfl,.refl x⟩
theorem HLe.upd {H H':Nat→Option Blk} (h:HLe H H') {i:Nat} {x y:Blk} (hxy:x.le y):HLe (updH H i x) (updH H' i y):=fun j=>by
 by_cases hj:j=i
 ·subst hj; exact .inr ⟨x,y,by simp [updH],by simp [updH],hxy⟩
 ·simpa [updH,hj] using h j
theorem HLe.wr:∀ {ws ws':List (Nat × Blk)} {H H':Nat→Option Blk},HLe H H'→wrLe ws ws'→HLe (ws.foldl (fun H p=>updH H p.1 p.2) H) (ws'.foldl (fun H p=>updH H p.1 p.2) H')
 | [],[],_,_,h,_=>h
 | p :: ps,q :: qs,_,_,h,hw=>by
  obtain ⟨h1,h2,h3⟩:=hw
  simp only [List.foldl_cons,h1]
  exact HLe.wr (h.upd h2) h3
 | [],_ :: _,_,_,_,hw=>hw.elim
 | _ :: _,[],_,_,_,hw=>hw.elim
theorem Mem.le {C:Ctx} {ρ:Names} {S:Nat→Prop} {H H':Nat→Option Blk} {nx:Nat→Prop} {w:World} (h:Mem C ρ S H nx w) (hl:HLe H H'):Mem C ρ S H' nx w:=by
 have back:∀ i y,H' i=some y → ∃ x,H i=some x∧x.le y:=fun i y e=>by
  rcases hl i with ⟨-,h2⟩ | ⟨x,y',h1,h2,h3⟩
  ·rw [h2] at e; cases e
  ·rw [h2] at e; cases e; exact ⟨x,h1,h3⟩
 refine ⟨h.size,h.shape,h.old,h.ent,h.s0,h.snew,h.sin,h.rin,fun i k b e hl' e' => ?_,fun i j k l b e1 h1 e2 h2 r1 r2 => ?_,fun i k e => ?_,fun i hi=>⟨?_,(h.free i hi).2⟩,h.keep⟩
 ·obtain ⟨x,hx,hle⟩:=back i k e
  exact h.own i x b hx (hle.1 hl') e'
 ·obtain ⟨x,hx,hle⟩:=back i k e1
  obtain ⟨y,hy,hle'⟩:=back j l e2
  exact h.inj i j x y b hx (hle.1 h1) hy (hle'.1 h2) r1 r2
 ·obtain ⟨x,hx,hle⟩:=back i k e
  exact hle.2 _ _ _ _ (h.blk i x hx)
 ·rcases hl i with ⟨-,h2⟩ | ⟨x,y',h1,-,-⟩
  ·exact h2
  ·rw [(h.free i hi).1] at h1; cases h1
theorem Good.le {C:Ctx} {ρ:Names} {S:Nat→Prop} {H:Nat→Option Blk} {nx:Nat→Prop} {w:World} {out out':Out} {id:Nat} {r:Result Next} (h:Good C ρ S H nx w out id r) (hl:Out.le out out'):Good C ρ S H nx w out' id r:=by
 obtain ⟨ρ',v,w',h1,h2,h3,h4,h5,h6⟩:=h
 exact ⟨ρ',v,w',h1,h2,h3,h4.le ((HLe.refl H).wr hl.wr),hl.val _ _ _ _ h5,h6⟩
inductive Takes (P:Program) (o:Op) (id:Nat) (r:Operand→AV) (H:Nat→Option Blk):Out→Prop
 | pure {c:Prop} {z:AV} (h:absPure P o r=some (c,z)) (hc:c):Takes P o id r H { cond:=c,val:=z }
 | mem {out:Out} (h:absMem P o id r H=some out) (hc:out.cond):Takes P o id r H out
 | make {out:Out} (h:absMake P o id r H=some out) (hc:out.cond):Takes P o id r H out
 | more {out:Out} (h:absMore P o id r H=some out) (hc:out.cond):Takes P o id r H out
 | weak {out out':Out} (h:Takes P o id r H out) (hl:out.le out'):Takes P o id r H out'
theorem Takes.of {o:Op} {id:Nat} {out:Out} (h:absOp P o id r H=some out) (hc:out.cond):Takes P o id r H out:=by
 unfold absOp at h
 split at h
 ·rename_i q hq
  cases h
  exact .pure (c:=q.1) (z:=q.2) hq hc
 ·split at h
  ·rename_i out' hm
   cases h
   exact .mem hm hc
  ·exact .make h hc
theorem Takes.local {o:Op} {id:Nat} {out:Out} (h:Takes P o id r H out) (hr:∀ x ∈ o.operands,r' x=r x) (hH:∀ i ∈ out.ri,H' i=H i):Takes P o id r' H' out:=by
 induction h with
 | pure h hc=>exact .pure (absPure_local h hr) hc
 | mem h hc=>exact .mem (absMem_local h hr hH) hc
 | make h hc=>exact .make (absMake_local h hr hH) hc
 | more h hc=>exact .more (absMore_local h hr hH) hc
 | weak h hl ih=>exact .weak (ih (fun i hi=>hH i (by rw [hl.ri]; exact hi))) hl
theorem Takes.good {C:Ctx} {ρ:Names} {S:Nat→Prop} {nx:Nat→Prop} {w:World} {ev:Operand→Value} {o:Oper} {id:Nat} {out:Out} (h:Takes P o.op id r H out) (hm:Mem C ρ S H nx w) (hid:nx id) (hr:∀ x,Rel S w ρ (r x) (ev x)) :
  Good C ρ S H nx w out id ((execOp ev o).run P w):=by
 induction h with
 | weak h hl ih=>exact ih.le hl
 | pure h hc =>
  obtain ⟨q,hq,hrel⟩:=absPure_sound h hc hr
  exact Good.pure hm hq hrel rfl
 | mem h hc=>exact absMem_sound h hc hm hid hr
 | make h hc=>exact absMake_sound h hc hm hid hr
 | more h hc=>exact absMore_sound h hc hm hid hr
end
end Go.Proofs.Ytoncoofmijjgeaa.Sep
namespace Go.Proofs.Ytoncoofmijjgeaa.Sep
open Go
set_option linter.unusedVariables false
set_option linter.unusedSimpArgs false
def Ent (P:Program) (f:FuncId):Prop:=∀ args w,(callFunc f args).run P w = .ok (.enter f args) w
theorem Ent.of {P : Program} {f : FuncId} {fn : Func} (hf : P.funcs[f]? = some fn) (hn : (fn.name == "runtime.NumGoroutine") = false) (hb : fn.body.isNone = false) : Ent P f := fun args w => by
 simp only [callFunc,Sem.run_bind,run_program,Result.andThen_ok,hf,hn,hb,Bool.false_eq_true,if_false,Sem.run_pure]
def Spec (P:Program) (f:FuncId) (xs:List AV) (Hs:List Blk) (r:AV) (Hs':List Blk):Prop :=
 Ent P f∧Hs.length≤Hs'.length∧∀ (ρ0:Names) (S:Nat→Prop) (w:World) (vs:Array Value),Mem (Ctx.of w ρ0 S) ρ0 S (Hs[·]?) (fun i=>Hs.length≤i) w→RelCs S w ρ0 xs vs →
  Calls P f vs w fun e w' => ∃ v,e = .returned v ∧ ∃ ρ' S',Mem (Ctx.of w ρ0 S) ρ' S' (Hs'[·]?) (fun i=>Hs'.length≤i) w'∧Rel S' w' ρ' r v
abbrev Pure (P:Program) (f:FuncId) (xs:List AV) (r:AV):Prop:=Spec P f xs [] r []
mutual
def AV.flat:AV→Bool
 | .lit _=>true
 | .agg cs=>AV.flatL cs
 | .tup cs=>AV.flatL cs
 | .vsl _ []=>true
 | _=>false
def AV.flatL:List AV→Bool
 | []=>true
 | c :: cs=>c.flat && AV.flatL cs
end
theorem flatL_get {cs:List AV} (h:AV.flatL cs=true) {k:Nat} {c:AV} (hk:cs[k]? = some c):c.flat=true:=by
 induction cs generalizing k with
 | nil=>simp at hk
 | cons x cs ih =>
  simp [AV.flatL] at h
  cases k with
  | zero=>simp at hk; subst hk; exact h.1
  | succ k=>simp at hk; exact ih h.2 hk
theorem Rel.flat {S S':Nat→Prop} {w w':World} {ρ ρ':Names} {x:AV} {v:Value} (h:Rel S w ρ x v) (hf:x.flat=true):Rel S' w' ρ' x v:=by
 induction h with
 | lit v=>exact .lit v
 | agg hl h ih=>simp only [AV.flat] at hf; exact .agg hl (fun k c v h1 h2=>ih k c v h1 h2 (flatL_get hf h1))
 | tup hl h ih=>simp only [AV.flat] at hf; exact .tup hl (fun k c v h1 h2=>ih k c v h1 h2 (flatL_get hf h1))
 | vslNil=>exact .vslNil
 | vsl vs hc hS hz hv hr =>
  rename_i xs _
  cases xs with
  | nil=>exact .vslNil
  | cons x xs=>simp [AV.flat] at hf
 | _=>simp [AV.flat] at hf
inductive Coe (H:Nat→Option Blk) (Z:List Nat):AV→AV→Prop
 | refl {a:AV} : Coe H Z a a
 | nil {sz:Nat} : Coe H Z (.lit (.slice none 0 0)) (.vsl sz [])
 | vec {i sz lo n:Nat} {xs:List (List AV)} (h:H i=some (.row sz xs)) (hn:lo+n≤xs.length) (hi:i ∈ Z):Coe H Z (.vec i sz lo n) (.vsl sz ((xs.drop lo).take n))
 | ptr {i off:Nat} {cs:List AV} (h:H i=some (.cells cs)) (hc:∀ c ∈ cs,c.closed=true) (hi:i ∈ Z):Coe H Z (.ptr i off) (.vptr cs.length [cs] 0 off)
 | agg {as bs:List AV} (hl:as.length=bs.length) (h:∀ (k:Nat) a b,as[k]? = some a→bs[k]? = some b→Coe H Z a b):Coe H Z (.agg as) (.agg bs)
 | tup {as bs:List AV} (hl:as.length=bs.length) (h:∀ (k:Nat) a b,as[k]? = some a→bs[k]? = some b→Coe H Z a b):Coe H Z (.tup as) (.tup bs)
 | fn {f:Fn} {as bs cs ds:List AV} (hl:as.length=bs.length) (h:∀ (k:Nat) a b,as[k]? = some a→bs[k]? = some b→Coe H Z a b) (hl':cs.length=ds.length) (h':∀ (k:Nat) a b,cs[k]? = some a→ds[k]? = some b→Coe H Z a b):Coe H Z (.fn f as cs) (.fn f bs ds)
def frozenS (S:Nat→Prop) (ρ:Names) (Z:List Nat):Nat→Prop:=fun b=>S b ∨ ∃ i ∈ Z,ρ i=some b
theorem Coe.rel {C:Ctx} {ρ:Names} {S:Nat→Prop} {H:Nat→Option Blk} {nx:Nat→Prop} {w:World} {Z:List Nat} (hm:Mem C ρ S H nx w) {a b:AV} (h:Coe H Z a b):∀ {v:Value},Rel S w ρ a v→Rel (frozenS S ρ Z) w ρ b v:=by
 have hup:∀ {x v ρ},Rel S w ρ x v→Rel (frozenS S ρ Z) w ρ x v:=fun h=>h.mono (Kept.refl S w) (fun _ e=>.inl e) (Names.le.refl _)
 induction h with
 | refl=>intro v hv; exact hup hv
 | nil=>intro v hv; obtain rfl:=hv.lit_inv; exact .vslNil
 | vec h hn hi =>
  intro v hv
  rename_i i sz lo n xs
  obtain ⟨hpos,hz,hblk⟩:=hm.blk i _ h
  rcases hv.vec_inv with ⟨a,rfl,rfl⟩ | ⟨b,T,m,cap,hb,hsh,hcap,hl,rfl⟩
  ·simp only [List.take_zero]; exact .vslNil
  ·rcases hblk with ⟨h1,-⟩ | ⟨n',vs,T',hn',hheap,hrel⟩
   ·rw [hb] at h1; cases h1
   rw [hb] at hn'; cases hn'
   have hlen:((xs.drop lo).take n).length=n:=by simp; omega
   have hget:∀ (k:Nat) cs,((xs.drop lo).take n)[k]? = some cs→xs[lo+k]? = some cs:=fun k cs h=>by
    rw [List.getElem?_take,List.getElem?_drop] at h
    split at h
    ·exact h
    ·cases h
   have key:∀ (k j:Nat) cs c,((xs.drop lo).take n)[k]? = some cs→cs[j]? = some c→w.cell? ⟨b,lo*sz+k*sz+j,none⟩=some (vs.getD (lo*sz+k*sz+j) undef)∧Rel S w noNames c (vs.getD (lo*sz+k*sz+j) undef):=fun k j cs c h1 h2=>by
    obtain ⟨v,hv,hr⟩:=hrel _ _ _ _ (hget k cs h1) h2
    rw [Nat.add_mul] at hv
    rw [cell_of_heap hheap]
    simp [hv,hr]
   have:=Rel.vsl (S:=frozenS S ρ Z) (w:=w) (ρ:=ρ) (sz:=sz) (b:=b) (off:=lo*sz) (cap:=cap) (xs:=(xs.drop lo).take n) (fun k j=>vs.getD (lo*sz+k*sz+j) undef) (by omega) (.inr ⟨i,hi,hb⟩)
    (fun k cs h=>hz _ _ (hget k cs h)) (fun k j cs c h1 h2=>(key k j cs c h1 h2).1) (fun k j cs c h1 h2=>(key k j cs c h1 h2).2.mono (Kept.refl S w) (fun _ e=>.inl e) (Names.le.refl _))
   rw [hlen] at this
   exact this
 | ptr h hc hi =>
  intro v hv
  rename_i i off cs
  obtain ⟨b,hb,rfl⟩:=hv.ptr_inv
  obtain ⟨n,vs,T,hn,hheap,hl,hrel⟩:=hm.blk i _ h
  rw [hb] at hn; cases hn
  refine vptr' (b:=b) (off:=0) (fun _ j=>vs.getD j undef) (.inr ⟨i,hi,hb⟩) (fun k cs' h => ?_) (fun k j cs' c h1 h2 => ?_) (fun k j cs' c h1 h2 => ?_) (by omega)
  ·cases k with
   | zero=>simp at h; rw [h]
   | succ k=>simp at h
  ·cases k with
   | succ k=>simp at h1
   | zero =>
    simp at h1
    subst h1
    have hlt:j<vs.size:=by rw [hl]; exact (List.getElem?_eq_some_iff.1 h2).1
    rw [cell_of_heap hheap]; simp [hlt]
  ·cases k with
   | succ k=>simp at h1
   | zero =>
    simp at h1
    subst h1
    have hlt:j<vs.size:=by rw [hl]; exact (List.getElem?_eq_some_iff.1 h2).1
    have:=(hrel j c vs[j] h2 (by simp [hlt])).closed (hc c (List.mem_of_getElem? h2))
    simpa [hlt] using this.mono (Kept.refl S w) (fun _ e=>.inl e) (Names.le.refl _)
 | agg hl h ih =>
  intro v hv
  obtain ⟨vs,rfl,hl',hh⟩:=hv.agg_inv
  refine .agg (by omega) (fun k c u h1 h2 => ?_)
  have hk:=(List.getElem?_eq_some_iff.1 h1).1
  rename_i as bs
  have ha:as[k]? = some as[k]:=by simp
  exact ih k _ c ha h1 (hh k _ u ha h2)
 | tup hl h ih =>
  intro v hv
  obtain ⟨vs,rfl,hl',hh⟩:=hv.tup_inv
  refine .tup (by omega) (fun k c u h1 h2 => ?_)
  have hk:=(List.getElem?_eq_some_iff.1 h1).1
  rename_i as bs
  have ha:as[k]? = some as[k]:=by simp
  exact ih k _ c ha h1 (hh k _ u ha h2)
 | fn hl h hl' h' ih ih' =>
  intro v hv
  obtain ⟨ys,vs,rfl,g1,g2,g3,g4⟩:=hv.fn_inv
  rename_i as bs cs ds
  refine .fn (by omega) (fun k c u h1 h2 => ?_) (by omega) (fun k c u h1 h2 => ?_)
  ·have hk:=(List.getElem?_eq_some_iff.1 h1).1
   have ha:as[k]? = some as[k]:=by simp
   exact ih k _ c ha h1 (g2 k _ u ha h2)
  ·have hk:=(List.getElem?_eq_some_iff.1 h1).1
   have ha:cs[k]? = some cs[k]:=by simp
   exact ih' k _ c ha h1 (g4 k _ u ha h2)
def SG (C:Ctx) (ρ:Names) (S:Nat→Prop) (H:Nat→Option Blk) (nx:Nat→Prop) (w:World) (out:Out) (id:Nat) (v:Value) (w':World):Prop :=
 ∃ ρ' S',ρ.le ρ'∧(∀ b,S b→S' b)∧Kept S w w'∧Mem C ρ' S' (out.wr.foldl (fun H p=>updH H p.1 p.2) H) (fun i=>nx i∧¬ (id≤i∧i<id+8)) w'∧Rel S' w' ρ' out.val v ∧
  (∀ n:Nat,w.heap[n]? = some (.deferred (some []))→w'.heap[n]? = some (.deferred (some [])))
theorem Good.sg {C:Ctx} {ρ:Names} {S:Nat→Prop} {H:Nat→Option Blk} {nx:Nat→Prop} {w:World} {out:Out} {id:Nat} {r:Result Next} (h:Good C ρ S H nx w out id r) :
  ∃ v w',(r = .ok (.value v) w'∨(r = .ok .skip w'∧v=undef))∧SG C ρ S H nx w out id v w':=by
 obtain ⟨ρ',v,w',h1,h2,h3,h4,h5,h6⟩:=h
 exact ⟨v,w',h1,ρ',S,h2,fun _ e=>e,h3,h4.less (fun i hi=>⟨hi.1,fun e=>by have:=hi.2; subst e; exact this ⟨Nat.le_refl _,by omega⟩⟩),h5,h6⟩
theorem pure_call {C:Ctx} {ρ:Names} {S:Nat→Prop} {H:Nat→Option Blk} {nx:Nat→Prop} {w:World} {P:Program} {f:FuncId} {as xs:List AV} {res:AV} {Z:List Nat} {id:Nat} {vs:Array Value}
  (hs:Pure P f xs res) (hm:Mem C ρ S H nx w) (has:RelCs S w ρ as vs) (hl:as.length=xs.length) (hc:∀ (k:Nat) a x,as[k]? = some a→xs[k]? = some x→Coe H Z a x) (hx:∀ x ∈ xs,∀ v,Rel (frozenS S ρ Z) w ρ x v→Rel (frozenS S ρ Z) w noNames x v)
  (hz:Z=[]∨res.flat=true):Calls P f vs w fun e w' => ∃ v,e = .returned v∧SG C ρ S H nx w { cond:=True,val:=res,ri:=Z } id v w':=by
 obtain ⟨-,-,hs⟩:=hs
 have hargs:RelCs (frozenS S ρ Z) w noNames xs vs:=by
  refine ⟨by rw [has.1,hl],fun k c v h1 h2 => ?_⟩
  have hk:=(List.getElem?_eq_some_iff.1 h1).1
  have ha:as[k]? = some as[k]:=by simp
  exact hx c (List.mem_of_getElem? h1) v ((hc k _ c ha h1).rel hm (has.2 k _ v ha h2))
 have hmem:Mem (Ctx.of w noNames (frozenS S ρ Z)) noNames (frozenS S ρ Z) (([]:List Blk)[·]?) (fun i=>([]:List Blk).length≤i) w:=by
  refine ⟨Nat.le_refl _,fun _ _ e=>e,fun _ _ _=>rfl,Names.le.refl _,fun _ e=>e,fun _ e=>.inl e,fun b hb => ?_,fun i b e=>(by cases e),fun i k b e=>(by simp at e),fun i j k l b e=>(by simp at e),fun i k e=>(by simp at e),fun i _=>⟨by simp,rfl⟩,fun _ _ _ _ _ e=>e⟩
  rcases hb with hb | ⟨i,-,hi⟩
  ·exact hm.sin b hb
  ·exact (hm.rin i b hi).1
 refine (hs noNames (frozenS S ρ Z) w vs hmem hargs).mono ?_
 rintro e w' ⟨v,rfl,ρ',S',hm',hr⟩
 have hρ':∀ i,ρ' i=none:=fun i=>(hm'.free i (by simp)).2
 have hr0:Rel S' w' noNames res v:=hr.mono (Kept.refl S' w') (fun _ e=>e) (fun i b e=>by rw [hρ' i] at e; cases e)
 have hsame:∀ b,b<w.heap.size→w'.heap[b]? = w.heap[b]? := fun b hb=>hm'.old b hb (fun ⟨j,h⟩=>by cases h)
 have hnew:∀ b,S' b→frozenS S ρ Z b∨w.heap.size≤b:=fun b hb=>by
  rcases hm'.snew b hb with h | h | ⟨j,h⟩
  ·exact .inl h
  ·exact .inr h
  ·cases h
 refine ⟨v,rfl,ρ,fun b=>S b∨(Z=[]∧S' b),Names.le.refl _,fun _ e=>.inl e,.of hm'.size hm'.shape (fun b hb=>hsame b (hm.sin b hb)),?_,?_,fun n e => ?_⟩
 ·refine (hm.step (fun _=>False) hm'.size hm'.shape (fun b hb _=>hsame b hb) (fun _ e=>e.elim) (Names.le.refl _) (fun i b e=>.inl ⟨i,e⟩) (fun _ e=>.inl e) (fun b hb => ?_) (fun i k e=>.inl ⟨e,fun b e'=>⟨e',fun x=>x⟩⟩) (fun i k b e hl' e' hb => ?_) hm.inj hm.free).less (fun i hi=>hi.1)
  ·rcases hb with hb | ⟨hz0,hb⟩
   ·exact .inl hb
   ·rcases hnew b hb with h | h
    ·rcases h with h | ⟨i,hi,-⟩
     ·exact .inl h
     ·rw [hz0] at hi; cases hi
    ·exact .inr ⟨.inl (Nat.le_trans hm.size h),hm'.sin b hb⟩
  ·rcases hb with hb | ⟨hz0,hb⟩
   ·exact hm.own i k b e hl' e' hb
   ·rcases hnew b hb with h | h
    ·rcases h with h | ⟨j,hj,-⟩
     ·exact hm.own i k b e hl' e' h
     ·rw [hz0] at hj; cases hj
    ·have:=(hm.rin i b e').1; omega
 ·rcases hz with hz | hf
  ·exact hr0.mono (Kept.refl S' w') (fun b hb=>.inr ⟨hz,hb⟩) (fun _ _ e=>by cases e)
  ·exact hr0.flat hf
 ·rw [hsame n (Array.getElem?_eq_some_iff.1 e).1]; exact e
end Go.Proofs.Ytoncoofmijjgeaa.Sep
namespace Go.Proofs.Ytoncoofmijjgeaa.Sep
open Go
set_option linter.unusedVariables false
set_option linter.unusedSimpArgs false
mutual
def AV.idsLt (m:Nat):AV→Bool
 | .lit _=>true
 | .vsl _ _=>true
 | .vptr _ _ _ _=>true
 | .ptr i _=>decide (i<m)
 | .rptr i _ _ _=>decide (i<m)
 | .vec i _ _ _=>decide (i<m)
 | .agg cs=>AV.idsLtL m cs
 | .tup cs=>AV.idsLtL m cs
 | .fn _ xs cs=>AV.idsLtL m xs && AV.idsLtL m cs
 | _=>false
def AV.idsLtL (m:Nat):List AV→Bool
 | []=>true
 | c :: cs=>c.idsLt m && AV.idsLtL m cs
end
theorem idsLtL_get {m:Nat} {cs:List AV} (h:AV.idsLtL m cs=true) {k:Nat} {c:AV} (hk:cs[k]? = some c):c.idsLt m=true:=by
 induction cs generalizing k with
 | nil=>simp at hk
 | cons x cs ih =>
  simp [AV.idsLtL] at h
  cases k with
  | zero=>simp at hk; subst hk; exact h.1
  | succ k=>simp at hk; exact ih h.2 hk
def below (m:Nat) (ρ:Names):Names:=fun i=>if i<m then ρ i else none
theorem Rel.lt {S:Nat→Prop} {w:World} {ρ:Names} {x:AV} {v:Value} {m:Nat} (h:Rel S w ρ x v) (hf:x.idsLt m=true):Rel S w (Sep.below m ρ) x v:=by
 induction h with
 | lit v=>exact .lit v
 | ptr h=>simp [AV.idsLt] at hf; exact .ptr (by simp [Sep.below,hf,h])
 | rptr h=>simp [AV.idsLt] at hf; exact .rptr (by simp [Sep.below,hf,h])
 | vec0=>exact .vec0
 | vec h hs hc hl=>simp [AV.idsLt] at hf; exact .vec (by simp [Sep.below,hf,h]) hs hc hl
 | agg hl h ih=>simp only [AV.idsLt] at hf; exact .agg hl (fun k c v h1 h2=>ih k c v h1 h2 (idsLtL_get hf h1))
 | tup hl h ih=>simp only [AV.idsLt] at hf; exact .tup hl (fun k c v h1 h2=>ih k c v h1 h2 (idsLtL_get hf h1))
 | fn hl h hl' h' ih ih'=>simp [AV.idsLt] at hf; exact .fn hl (fun k c v h1 h2=>ih k c v h1 h2 (idsLtL_get hf.1 h1)) hl' (fun k c v h1 h2=>ih' k c v h1 h2 (idsLtL_get hf.2 h1))
 | vslNil=>exact .vslNil
 | vsl vs hc hS hz hv hr=>exact .vsl vs hc hS hz hv hr
 | vptr vs hS hz hv hr=>exact .vptr vs hS hz hv hr
 | _=>simp [AV.idsLt] at hf
def Blk.idsLt (m:Nat):Blk→Bool
 | .cells cs=>AV.idsLtL m cs
 | _=>true
theorem BlkRel.lt {S:Nat→Prop} {w:World} {ρ:Names} {o:Option Nat} {b:Blk} {m:Nat} (h:BlkRel S w ρ o b) (hf:b.idsLt m=true):BlkRel S w (Sep.below m ρ) o b:=by
 cases b with
 | dead=>trivial
 | cells cs =>
  obtain ⟨n,vs,T,h1,h2,h3,h4⟩:=h
  exact ⟨n,vs,T,h1,h2,h3,fun k c v g1 g2=>(h4 k c v g1 g2).lt (idsLtL_get hf g1)⟩
 | row sz xs=>exact h
mutual
def AV.ren (σ:Nat→Nat):AV→AV
 | .ptr i off=>.ptr (σ i) off
 | .rptr i sz n j=>.rptr (σ i) sz n j
 | .vec i sz lo len=>.vec (σ i) sz lo len
 | .agg cs=>.agg (AV.renL σ cs)
 | .tup cs=>.tup (AV.renL σ cs)
 | .fn f xs cs=>.fn f (AV.renL σ xs) (AV.renL σ cs)
 | .when g x=>.when g (x.ren σ)
 | .top=>.top
 | .lit v=>.lit v
 | .vsl sz xs=>.vsl sz xs
 | .vptr sz xs n j=>.vptr sz xs n j
def AV.renL (σ:Nat→Nat):List AV→List AV
 | []=>[]
 | c :: cs=>c.ren σ :: AV.renL σ cs
end
theorem renL_map (σ:Nat→Nat):∀ cs:List AV,AV.renL σ cs=cs.map (AV.ren σ)
 | []=>rfl
 | c :: cs=>by simp [AV.renL,renL_map σ cs]
theorem Rel.ren {S:Nat→Prop} {w:World} {ρ:Names} {x:AV} {v:Value} {σ:Nat→Nat} (h:Rel S w ρ x v):∀ {ρ':Names},(∀ i b,ρ i=some b→ρ' (σ i)=some b)→Rel S w ρ' (x.ren σ) v:=by
 have key:∀ {cs:List AV} {ρ':Names} {vs:Array Value},(∀ (k:Nat) c v,cs[k]? = some c→vs[k]? = some v→Rel S w ρ' (c.ren σ) v)→∀ (k:Nat) c v,(AV.renL σ cs)[k]? = some c→vs[k]? = some v→Rel S w ρ' c v:=fun {cs ρ' vs} h k c v h1 h2=>by
  rw [renL_map,List.getElem?_map,Option.map_eq_some_iff] at h1
  obtain ⟨c',h1,rfl⟩:=h1
  exact h k c' v h1 h2
 have len:∀ cs:List AV,(AV.renL σ cs).length=cs.length:=fun cs=>by rw [renL_map,List.length_map]
 induction h with
 | top v=>intro ρ' _; exact .top v
 | lit v=>intro ρ' _; exact .lit v
 | ptr h=>intro ρ' hh; exact .ptr (hh _ _ h)
 | rptr h=>intro ρ' hh; exact .rptr (hh _ _ h)
 | vec0=>intro ρ' _; exact .vec0
 | vec h hs hc hl=>intro ρ' hh; exact .vec (hh _ _ h) hs hc hl
 | vslNil=>intro ρ' _; exact .vslNil
 | vsl vs hc hS hz hv hr=>intro ρ' _; exact .vsl vs hc hS hz hv hr
 | vptr vs hS hz hv hr=>intro ρ' _; exact .vptr vs hS hz hv hr
 | agg hl h ih=>intro ρ' hh; exact .agg (by rw [hl,len]) (key fun k c v h1 h2=>ih k c v h1 h2 hh)
 | tup hl h ih=>intro ρ' hh; exact .tup (by rw [hl,len]) (key fun k c v h1 h2=>ih k c v h1 h2 hh)
 | fn hl h hl' h' ih ih'=>intro ρ' hh; exact .fn (by rw [hl,len]) (key fun k c v h1 h2=>ih k c v h1 h2 hh) (by rw [hl',len]) (key fun k c v h1 h2=>ih' k c v h1 h2 hh)
 | when h h' ih=>intro ρ' hh; exact .when (fun e=>ih e hh) h'
def under (m:Nat) (σ:Nat→Nat) (ρ:Names):Names:=fun j=>if j<m then ρ (σ j) else none
theorem Rel.unren' {S:Nat→Prop} {w:World} {ρ:Names} {σ:Nat→Nat} {m:Nat} : ∀ (n:Nat) (x:AV),SizeOf.sizeOf x≤n→x.idsLt m=true→∀ {v:Value},Rel S w ρ (x.ren σ) v→Rel S w (under m σ ρ) x v:=by
 intro n
 induction n with
 | zero=>intro x hs; cases x <;> simp at hs
 | succ n ih =>
 intro x hs hm v h
 have len:∀ cs:List AV,(AV.renL σ cs).length=cs.length:=fun cs=>by rw [renL_map,List.length_map]
 cases x with
 | top=>simp [AV.idsLt] at hm
 | lit u=>obtain rfl:=h.lit_inv; exact .lit _
 | ptr i off =>
  obtain ⟨b,hb,rfl⟩:=h.ptr_inv
  simp only [AV.idsLt,decide_eq_true_eq] at hm
  exact .ptr (by unfold under; rw [if_pos hm]; exact hb)
 | rptr i sz n j =>
  obtain ⟨b,hb,rfl⟩:=h.rptr_inv
  simp only [AV.idsLt,decide_eq_true_eq] at hm
  exact .rptr (by unfold under; rw [if_pos hm]; exact hb)
 | vec i sz lo len =>
  simp only [AV.idsLt,decide_eq_true_eq] at hm
  rcases h.vec_inv with ⟨a,rfl,rfl⟩ | ⟨b,T,n,cap,hb,h1,h2,h3,rfl⟩
  ·exact .vec0
  ·exact .vec (by unfold under; rw [if_pos hm]; exact hb) h1 h2 h3
 | vsl sz xs=>cases h with
  | vslNil=>exact .vslNil
  | vsl vs hc hS hz hv hr=>exact .vsl vs hc hS hz hv hr
 | vptr sz xs n j=>cases h with
  | vptr vs hS hz hv hr=>exact .vptr vs hS hz hv hr
 | agg cs =>
  obtain ⟨vs,rfl,h1,h2⟩:=h.agg_inv
  simp only [AV.idsLt] at hm
  exact .agg (by rw [h1,len]) fun k c v g1 g2=>ih c (by have:=List.sizeOf_lt_of_mem (List.mem_of_getElem? g1); simp at hs; omega) (idsLtL_get hm g1) (h2 k (c.ren σ) v (by rw [renL_map,List.getElem?_map,g1]; rfl) g2)
 | tup cs =>
  obtain ⟨vs,rfl,h1,h2⟩:=h.tup_inv
  simp only [AV.idsLt] at hm
  exact .tup (by rw [h1,len]) fun k c v g1 g2=>ih c (by have:=List.sizeOf_lt_of_mem (List.mem_of_getElem? g1); simp at hs; omega) (idsLtL_get hm g1) (h2 k (c.ren σ) v (by rw [renL_map,List.getElem?_map,g1]; rfl) g2)
 | fn f xs cs =>
  obtain ⟨ys,vs,rfl,h1,h2,h3,h4⟩:=h.fn_inv
  simp only [AV.idsLt,Bool.and_eq_true] at hm
  exact .fn (by rw [h1,len]) (fun k c v g1 g2=>ih c (by have:=List.sizeOf_lt_of_mem (List.mem_of_getElem? g1); simp at hs; omega) (idsLtL_get hm.1 g1) (h2 k (c.ren σ) v (by rw [renL_map,List.getElem?_map,g1]; rfl) g2))
   (by rw [h3,len]) (fun k c v g1 g2=>ih c (by have:=List.sizeOf_lt_of_mem (List.mem_of_getElem? g1); simp at hs; omega) (idsLtL_get hm.2 g1) (h4 k (c.ren σ) v (by rw [renL_map,List.getElem?_map,g1]; rfl) g2))
 | when g x=>simp [AV.idsLt] at hm
theorem Rel.unren {S:Nat→Prop} {w:World} {ρ:Names} {σ:Nat→Nat} {m:Nat} {x:AV} {v:Value} (h:Rel S w ρ (x.ren σ) v) (hm:x.idsLt m=true):Rel S w (under m σ ρ) x v:=Rel.unren' _ x (Nat.le_refl _) hm h
def Blk.ren (σ:Nat→Nat):Blk→Blk
 | .cells cs=>.cells (AV.renL σ cs)
 | .dead=>.dead
 | .row sz xs=>.row sz xs
theorem Blk.ren_live (σ:Nat→Nat) (k:Blk):(k.ren σ).live=k.live:=by cases k <;> rfl
theorem BlkRel.ren {S:Nat→Prop} {w:World} {ρ ρ':Names} {o:Option Nat} {k:Blk} {σ:Nat→Nat} (h:BlkRel S w ρ o k) (hh:∀ i b,ρ i=some b→ρ' (σ i)=some b):BlkRel S w ρ' o (k.ren σ):=by
 cases k with
 | dead=>trivial
 | row sz xs=>exact h
 | cells cs =>
  obtain ⟨n,vs,T,h1,h2,h3,h4⟩:=h
  refine ⟨n,vs,T,h1,h2,by rw [h3,renL_map,List.length_map],fun k c v g1 g2 => ?_⟩
  rw [renL_map,List.getElem?_map,Option.map_eq_some_iff] at g1
  obtain ⟨c',g1,rfl⟩:=g1
  exact (h4 k c' v g1 g2).ren hh
theorem BlkRel.unren {S:Nat→Prop} {w:World} {ρ:Names} {o:Option Nat} {k:Blk} {σ:Nat→Nat} {m:Nat} (h:BlkRel S w ρ o (k.ren σ)) (hm:k.idsLt m=true):BlkRel S w (under m σ ρ) o k:=by
 cases k with
 | dead=>trivial
 | row sz xs=>exact h
 | cells cs =>
  obtain ⟨n,vs,T,h1,h2,h3,h4⟩:=h
  refine ⟨n,vs,T,h1,h2,by rw [h3,renL_map,List.length_map],fun k c v g1 g2 => ?_⟩
  exact (h4 k (c.ren σ) v (by rw [renL_map,List.getElem?_map,g1]; rfl) g2).unren (idsLtL_get hm g1)
theorem fold_upd_not:∀ {ps:List (Nat × Blk)} {H:Nat→Option Blk} {i:Nat},(∀ p ∈ ps,p.1≠i)→(ps.foldl (fun H p=>updH H p.1 p.2) H) i=H i
 | [],_,_,_=>rfl
 | p :: ps,H,i,h=>by
  rw [List.foldl_cons,fold_upd_not fun q hq=>h q (by simp [hq])]
  exact updH_ne (fun e=>h p (by simp) e.symm)
theorem fold_upd_mem:∀ {ps:List (Nat × Blk)} {H:Nat→Option Blk} {i:Nat} {b:Blk},(ps.map (·.1)).Nodup→(i,b) ∈ ps→(ps.foldl (fun H p=>updH H p.1 p.2) H) i=some b
 | p :: ps,H,i,b,hn,h=>by
  rw [List.map_cons,List.nodup_cons] at hn
  rw [List.foldl_cons]
  rcases List.mem_cons.1 h with e | e
  ·subst e
   rw [fold_upd_not fun q hq e=>hn.1 (List.mem_map.2 ⟨q,hq,e⟩)]
   exact updH_same
  ·exact fold_upd_mem hn.2 e
def sgm (is:List Nat) (id:Nat) (j:Nat):Nat:=is.getD j (id+(j-is.length))
theorem spec_call {C:Ctx} {ρ:Names} {S:Nat→Prop} {H:Nat→Option Blk} {nx:Nat→Prop} {w:World} {P:Program} {f:FuncId} {is:List Nat} {id:Nat} {Hs Hs':List Blk} {xs:List AV} {r:AV} {vs:Array Value}
  (hs:Spec P f xs Hs r Hs') (hm:Mem C ρ S H nx w) (hid:∀ i,id≤i→i<id+8→nx i) (hl:is.length=Hs.length) (hnd:is.Nodup)
  (hH:∀ (j i:Nat) k,is[j]? = some i→Hs[j]? = some k→H i=some (k.ren (sgm is id))∧k.live=true∧k.idsLt is.length=true)
  (hx:AV.idsLtL is.length xs=true) (hl':Hs'.length≤is.length+8) (has:RelCs S w ρ (AV.renL (sgm is id) xs) vs) :
  Calls P f vs w fun e w' => ∃ v,e = .returned v∧SG C ρ S H nx w { cond:=True,val:=r.ren (sgm is id),ri:=is,wr:=(List.range Hs'.length).map fun j=>(sgm is id j,(Hs'.getD j .dead).ren (sgm is id)) } id v w':=by
 classical
 obtain ⟨-,hle,hs⟩:=hs
 have sg1:∀ j,j<is.length → ∃ i k,is[j]? = some i∧sgm is id j=i∧Hs[j]? = some k∧H i=some (k.ren (sgm is id))∧k.live=true∧k.idsLt is.length=true:=fun j hj=>by
  have h1:is[j]? = some is[j]:=by simp
  have h2:Hs[j]? = some Hs[j]:=by simp
  refine ⟨is[j],Hs[j],h1,by unfold sgm; rw [List.getD_eq_getElem?_getD,h1]; rfl,h2,hH j _ _ h1 h2⟩
 have sg2:∀ j,is.length≤j→sgm is id j=id+(j-is.length):=fun j hj=>by
  unfold sgm
  rw [List.getD_eq_getElem?_getD,List.getElem?_eq_none hj]; rfl
 have fresh:∀ i,id≤i→i<id+8→H i=none∧ρ i=none:=fun i h1 h2=>hm.free i (hid i h1 h2)
 have inj:∀ j j',j<is.length+8→j'<is.length+8→sgm is id j=sgm is id j'→j=j':=fun j j' h1 h2 e=>by
  rcases Nat.lt_or_ge j is.length with a | a <;> rcases Nat.lt_or_ge j' is.length with b | b
  ·obtain ⟨i,k,g1,g2,-⟩:=sg1 j a
   obtain ⟨i',k',g1',g2',-⟩:=sg1 j' b
   rw [g2,g2'] at e
   subst e
   exact (List.getElem?_inj a hnd).1 (g1.trans g1'.symm)
  ·obtain ⟨i,k,g1,g2,g3,g4,-⟩:=sg1 j a
   rw [g2,sg2 j' b] at e
   rw [e,(fresh _ (by omega) (by omega)).1] at g4; cases g4
  ·obtain ⟨i,k,g1,g2,g3,g4,-⟩:=sg1 j' b
   rw [g2,sg2 j a] at e
   rw [← e,(fresh _ (by omega) (by omega)).1] at g4; cases g4
  ·rw [sg2 j a,sg2 j' b] at e; omega
 let ρ0:Names:=under is.length (sgm is id) ρ
 have r0:∀ j b,ρ0 j=some b→j<is.length∧ρ (sgm is id j)=some b:=fun j b e=>by
  simp only [ρ0,under] at e
  split at e
  ·rename_i h; exact ⟨h,e⟩
  ·cases e
 have r0n:∀ j,is.length≤j→ρ0 j=none:=fun j h=>by simp only [ρ0,under]; rw [if_neg (by omega)]
 have hmem:Mem (Ctx.of w ρ0 S) ρ0 S (Hs[·]?) (fun i=>Hs.length≤i) w:=by
  refine ⟨Nat.le_refl _,fun _ _ e=>e,fun _ _ _=>rfl,Names.le.refl _,fun _ e=>e,fun _ e=>.inl e,hm.sin,fun j b e => ?_,fun j k b e hlv e' hb => ?_,fun j j' k k' b e hk e' hk' g g' => ?_,fun j k e => ?_,fun j hj => ?_,fun _ _ _ _ _ e=>e⟩
  ·exact ⟨(hm.rin _ _ (r0 j b e).2).1,.inl ⟨j,e⟩⟩
  ·obtain ⟨hj,e2⟩:=r0 j b e'
   obtain ⟨i,k',g1,g2,g3,g4,g5,-⟩:=sg1 j hj
   rw [g2] at e2
   exact hm.own i _ b g4 (by rw [Blk.ren_live]; exact g5) e2 hb
  ·obtain ⟨hj,e2⟩:=r0 j b g
   obtain ⟨hj',e2'⟩:=r0 j' b g'
   obtain ⟨i,q,g1,g2,g3,g4,g5,-⟩:=sg1 j hj
   obtain ⟨i',q',g1',g2',g3',g4',g5',-⟩:=sg1 j' hj'
   rw [g2] at e2; rw [g2'] at e2'
   have:=hm.inj i i' _ _ b g4 (by rw [Blk.ren_live]; exact g5) g4' (by rw [Blk.ren_live]; exact g5') e2 e2'
   exact inj j j' (by omega) (by omega) (by rw [g2,g2',this])
  ·have hj:j<is.length:=by rw [hl]; exact (List.getElem?_eq_some_iff.1 e).1
   obtain ⟨i,q,g1,g2,g3,g4,g5,g6⟩:=sg1 j hj
   have e3:(Hs[j]?)=some k:=e
   rw [g3] at e3; cases e3
   have:=(hm.blk i _ g4).unren g6
   have e4:ρ0 j=ρ i:=by simp only [ρ0,under]; rw [if_pos hj,g2]
   rw [e4]; exact this
  ·exact ⟨by simpa using hj,r0n j (by omega)⟩
 have hargs:RelCs S w ρ0 xs vs:=by
  refine ⟨by rw [has.1,renL_map,List.length_map],fun k c v h1 h2 => ?_⟩
  exact (has.2 k (c.ren (sgm is id)) v (by rw [renL_map,List.getElem?_map,h1]; rfl) h2).unren (idsLtL_get hx h1)
 refine (hs ρ0 S w vs hmem hargs).mono ?_
 rintro e w' ⟨v,rfl,ρ',S',hm',hr⟩
 have rf:∀ j b,ρ' j=some b→j<Hs'.length:=fun j b e=>by
  rcases Nat.lt_or_ge j Hs'.length with h | h
  ·exact h
  ·rw [(hm'.free j h).2] at e; cases e
 let ρ2:Names:=fun i=>if h : ∃ j,j<is.length+8∧sgm is id j=i then ρ' (Classical.choose h) else ρ i
 have q1:∀ j,j<is.length+8→ρ2 (sgm is id j)=ρ' j:=fun j hj=>by
  have h : ∃ j',j'<is.length+8∧sgm is id j'=sgm is id j:=⟨j,hj,rfl⟩
  simp only [ρ2]
  rw [dif_pos h]
  obtain ⟨a,b⟩:=Classical.choose_spec h
  rw [inj _ _ a hj b]
 have q2:∀ i,(∀ j,j<is.length+8→sgm is id j≠i)→ρ2 i=ρ i:=fun i h=>by
  simp only [ρ2]
  rw [dif_neg (fun ⟨j,a,b⟩=>h j a b)]
 have hup:∀ j b,ρ' j=some b→ρ2 (sgm is id j)=some b:=fun j b e=>by rw [q1 j (by have:=rf j b e; omega)]; exact e
 have hρ:ρ.le ρ2:=fun i b e=>by
  by_cases h : ∃ j,j<is.length+8∧sgm is id j=i
  ·obtain ⟨j,a,rfl⟩:=h
   rw [q1 j a]
   rcases Nat.lt_or_ge j is.length with c | c
   ·exact hm'.ent j b (by show ρ0 j=some b; simp only [ρ0,under]; rw [if_pos c]; exact e)
   ·rw [sg2 j c,(fresh _ (by omega) (by omega)).2] at e; cases e
  ·rw [q2 i (fun j a b=>h ⟨j,a,b⟩)]; exact e
 have hO:∀ b,(∃ j,ρ0 j=some b) → ∃ i k,H i=some k∧k.live=true∧ρ i=some b ∧ ∃ j,j<is.length∧sgm is id j=i:=fun b ⟨j,e⟩=>by
  obtain ⟨hj,e2⟩:=r0 j b e
  obtain ⟨i,k,g1,g2,g3,g4,g5,-⟩:=sg1 j hj
  exact ⟨i,_,g4,by rw [Blk.ren_live]; exact g5,by rw [← g2]; exact e2,j,hj,g2⟩
 have hsame:∀ b,b<w.heap.size→¬ (∃ j,ρ0 j=some b)→w'.heap[b]? = w.heap[b]? := fun b hb h=>hm'.old b hb h
 have hS:∀ b,S b→w'.heap[b]? = w.heap[b]? := fun b hb=>hsame b (hm.sin b hb) (fun h=>by
  obtain ⟨i,k,h1,h2,h3,-⟩:=hO b h
  exact hm.own i k b h1 h2 h3 hb)
 have hcls:∀ b,S' b→S b∨w.heap.size≤b ∨ ∃ j,ρ0 j=some b:=fun b hb=>hm'.snew b hb
 let ps:=(List.range Hs'.length).map fun j=>(sgm is id j,(Hs'.getD j .dead).ren (sgm is id))
 have hkeys:(ps.map (·.1)).Nodup:=by
  simp only [ps,List.map_map]
  refine List.Pairwise.map _ (R:=fun a b=>a≠b∧a<Hs'.length∧b<Hs'.length) (fun a b h e=>h.1 (inj a b (by omega) (by omega) e)) ?_
  refine List.pairwise_iff_getElem.2 fun a b ha hb hab => ?_
  simp only [List.getElem_range,List.length_range] at ha hb ⊢
  omega
 have g1:∀ j k,Hs'[j]? = some k→(ps.foldl (fun H p=>updH H p.1 p.2) H) (sgm is id j)=some (k.ren (sgm is id)):=fun j k e=>by
  have hj:=(List.getElem?_eq_some_iff.1 e).1
  refine fold_upd_mem hkeys (List.mem_map.2 ⟨j,by simpa using hj,?_⟩)
  rw [List.getD_eq_getElem?_getD,e]; rfl
 have g2:∀ i,(∀ j,j<Hs'.length→sgm is id j≠i)→(ps.foldl (fun H p=>updH H p.1 p.2) H) i=H i:=fun i h=>fold_upd_not fun p hp=>by
  obtain ⟨j,hj,rfl⟩:=List.mem_map.1 hp
  exact h j (by simpa using hj)
 have cases':∀ i k,(ps.foldl (fun H p=>updH H p.1 p.2) H) i=some k→(∃ j q,Hs'[j]? = some q∧sgm is id j=i∧k=q.ren (sgm is id))∨(H i=some k∧ρ2 i=ρ i∧∀ j,j<is.length+8→sgm is id j≠i):=fun i k e=>by
  by_cases h : ∃ j,j<Hs'.length∧sgm is id j=i
  ·obtain ⟨j,hj,rfl⟩:=h
   have e2:Hs'[j]? = some Hs'[j]:=by simp
   rw [g1 j _ e2] at e
   cases e
   exact .inl ⟨j,_,e2,rfl,rfl⟩
  ·have h':∀ j,j<Hs'.length→sgm is id j≠i:=fun j a b=>h ⟨j,a,b⟩
   rw [g2 i h'] at e
   have h2:∀ j,j<is.length+8→sgm is id j≠i:=fun j a b=>by
    rcases Nat.lt_or_ge j Hs'.length with c | c
    ·exact h' j c b
    ·rw [← b,sg2 j (by omega),(fresh _ (by omega) (by omega)).1] at e; cases e
   exact .inr ⟨e,q2 i h2,h2⟩
 have notO:∀ i k b,H i=some k→k.live=true→ρ i=some b→(∀ j,j<is.length+8→sgm is id j≠i)→¬ ∃ j,ρ0 j=some b:=fun i k b e hk e' hne h=>by
  obtain ⟨i',k',a1,a2,a3,j,hj,rfl⟩:=hO b h
  exact hne j (by omega) (hm.inj _ i _ _ b a1 a2 e hk a3 e')
 refine ⟨v,rfl,ρ2,S',hρ,hm'.s0,.of hm'.size hm'.shape hS,?_,hr.ren hup,fun n e => ?_⟩
 ·refine Mem.less (hm.step (S':=S') (H':=ps.foldl (fun H p=>updH H p.1 p.2) H) (nx':=fun i=>nx i∧¬ (id≤i∧i<id+8)) (fun b => ∃ j,ρ0 j=some b) hm'.size hm'.shape hsame (fun b h => ?_) hρ (fun i b e => ?_) hm'.s0 (fun b hb => ?_) (fun i k e => ?_) (fun i k b e hk e' hb => ?_) (fun i i' k k' b e hk e' hk' f f' => ?_) (fun i hi => ?_)) (fun i hi=>hi)
  ·obtain ⟨i,k,a1,a2,a3,-⟩:=hO b h
   exact .inl ⟨i,k,a1,a2,a3⟩
  ·by_cases h : ∃ j,j<is.length+8∧sgm is id j=i
   ·obtain ⟨j,a,rfl⟩:=h
    rw [q1 j a] at e
    obtain ⟨b1,b2⟩:=hm'.rin j b e
    rcases b2 with b2 | b2
    ·obtain ⟨i,k,a1,a2,a3,-⟩:=hO b b2
     exact .inl ⟨i,a3⟩
    ·exact .inr ⟨b2,b1⟩
   ·rw [q2 i (fun j a b=>h ⟨j,a,b⟩)] at e
    exact .inl ⟨i,e⟩
  ·rcases hcls b hb with h | h | h
   ·exact .inl h
   ·exact .inr ⟨.inl (Nat.le_trans hm.size h),hm'.sin b hb⟩
   ·obtain ⟨i,k,a1,a2,a3,-⟩:=hO b h
    have:=(hm.rin i b a3).2
    exact .inr ⟨this.symm,hm'.sin b hb⟩
  ·rcases cases' i k e with ⟨j,q,a1,rfl,rfl⟩ | ⟨a1,a2,a3⟩
   ·refine .inr ?_
    have hj:=(List.getElem?_eq_some_iff.1 a1).1
    rw [q1 j (by omega)]
    exact (hm'.blk j q a1).ren hup
   ·by_cases hk:k.live=true
    ·exact .inl ⟨a1,fun b e'=>⟨by rw [a2] at e'; exact e',fun h=>by rw [a2] at e'; exact notO i k b a1 hk e' a3 h⟩⟩
    ·refine .inr ?_
     cases k with
     | dead=>trivial
     | _=>simp [Blk.live] at hk
  ·rcases cases' i k e with ⟨j,q,a1,rfl,rfl⟩ | ⟨a1,a2,a3⟩
   ·have hj:=(List.getElem?_eq_some_iff.1 a1).1
    rw [q1 j (by omega)] at e'
    exact hm'.own j q b a1 (by rw [Blk.ren_live] at hk; exact hk) e' hb
   ·rw [a2] at e'
    rcases hcls b hb with h | h | h
    ·exact hm.own i k b a1 hk e' h
    ·have:=(hm.rin i b e').1; omega
    ·exact notO i k b a1 hk e' a3 h
  ·have mixed:∀ j q i k,Hs'[j]? = some q→ρ' j=some b→H i=some k→k.live=true→ρ i=some b→(∀ j,j<is.length+8→sgm is id j≠i)→False:=fun j q i k a1 a2 a3 a4 a5 a6=>by
    obtain ⟨b1,b2⟩:=hm'.rin j b a2
    rcases b2 with b2 | b2
    ·exact notO i k b a3 a4 a5 a6 b2
    ·have c1:w.heap.size≤b:=b2
     have:=(hm.rin i b a5).1; omega
   rcases cases' i k e with ⟨j,q,a1,rfl,rfl⟩ | ⟨a1,a2,a3⟩ <;> rcases cases' i' k' e' with ⟨j',q',b1,rfl,rfl⟩ | ⟨b1,b2,b3⟩
   ·have hj:=(List.getElem?_eq_some_iff.1 a1).1
    have hj':=(List.getElem?_eq_some_iff.1 b1).1
    rw [q1 j (by omega)] at f
    rw [q1 j' (by omega)] at f'
    rw [Blk.ren_live] at hk hk'
    rw [hm'.inj j j' q q' b a1 hk b1 hk' f f']
   ·have hj:=(List.getElem?_eq_some_iff.1 a1).1
    rw [q1 j (by omega)] at f
    rw [b2] at f'
    exact (mixed j q i' k' a1 f b1 hk' f' b3).elim
   ·have hj':=(List.getElem?_eq_some_iff.1 b1).1
    rw [q1 j' (by omega)] at f'
    rw [a2] at f
    exact (mixed j' q' i k b1 f' a1 hk f a3).elim
   ·rw [a2] at f; rw [b2] at f'
    exact hm.inj i i' k k' b a1 hk b1 hk' f f'
  ·obtain ⟨h1,h2⟩:=hm.free i hi.1
   have h3:∀ j,j<is.length+8→sgm is id j≠i:=fun j a b=>by
    rcases Nat.lt_or_ge j is.length with c | c
    ·obtain ⟨i',k,g1,g2,g3,g4,-⟩:=sg1 j c
     rw [g2] at b; subst b; rw [h1] at g4; cases g4
    ·rw [sg2 j c] at b
     exact hi.2 ⟨by omega,by omega⟩
   exact ⟨(g2 i (fun j a=>h3 j (by omega))).trans h1,(q2 i h3).trans h2⟩
 ·have hn:=(Array.getElem?_eq_some_iff.1 e).1
  refine (hsame n hn (fun h => ?_)).trans e
  obtain ⟨i,k,a1,a2,a3,-⟩:=hO n h
  have hb:=hm.blk i k a1
  rw [a3] at hb
  cases k with
  | dead=>cases a2
  | cells cs=>obtain ⟨m,vs',T,c1,c2,-⟩:=hb; cases c1; rw [c2] at e; cases e
  | row sz xs =>
   obtain ⟨-,-,hb⟩:=hb
   rcases hb with ⟨c1,-⟩ | ⟨m,vs',T,c1,c2,-⟩
   ·cases c1
   ·cases c1; rw [c2] at e; cases e
end Go.Proofs.Ytoncoofmijjgeaa.Sep
namespace Go.Proofs.Ytoncoofmijjgeaa.Sep
open Go
set_option linter.unusedVariables false
set_option linter.unusedSimpArgs false
structure FOK (F:Fence):Prop where
 fn:∀ f,F.fn f
 depth:F.depth=none
 calls:∀ {n:Nat} {P:Program} {f:FuncId} {args:Array Value} {w:World} {R:Ending→World→Prop},Calls P f args w R→CallsIn F n P f args w R
 rounds:∀ {n:Nat} {P:Program} {l:Nat} {args:Array Value} {w:World} {R:Ending→World→Prop},YieldAt Fence.wide n P l args w R→YieldAt F n P l args w R
theorem FOK.wide:FOK Fence.wide:=⟨fun _=>trivial,rfl,fun h=>callsIn_wide.2 h,fun h=>h⟩
theorem FOK.inRound (l:Nat):FOK (Fence.wide.inRound l):=⟨fun _=>trivial,rfl,fun h=>CallsIn.inRound l (callsIn_wide.2 h),fun h=>h⟩
mutual
def AV.idless:AV→Bool
 | .lit _=>true
 | .vsl _ _=>true
 | .vptr _ _ _ _=>true
 | .agg cs=>AV.idlessL cs
 | .tup cs=>AV.idlessL cs
 | .fn _ xs cs=>AV.idlessL xs && AV.idlessL cs
 | _=>false
def AV.idlessL:List AV→Bool
 | []=>true
 | c :: cs=>c.idless && AV.idlessL cs
end
theorem idlessL_get {cs:List AV} (h:AV.idlessL cs=true) {k:Nat} {c:AV} (hk:cs[k]? = some c):c.idless=true:=by
 induction cs generalizing k with
 | nil=>simp at hk
 | cons x cs ih =>
  simp [AV.idlessL] at h
  cases k with
  | zero=>simp at hk; subst hk; exact h.1
  | succ k=>simp at hk; exact ih h.2 hk
theorem Rel.idless {S:Nat→Prop} {w:World} {ρ:Names} {x:AV} {v:Value} (h:Rel S w ρ x v) (hf:x.idless=true):Rel S w noNames x v:=by
 induction h with
 | lit v=>exact .lit v
 | agg hl h ih=>simp only [AV.idless] at hf; exact .agg hl (fun k c v h1 h2=>ih k c v h1 h2 (idlessL_get hf h1))
 | tup hl h ih=>simp only [AV.idless] at hf; exact .tup hl (fun k c v h1 h2=>ih k c v h1 h2 (idlessL_get hf h1))
 | fn hl h hl' h' ih ih'=>simp [AV.idless] at hf; exact .fn hl (fun k c v h1 h2=>ih k c v h1 h2 (idlessL_get hf.1 h1)) hl' (fun k c v h1 h2=>ih' k c v h1 h2 (idlessL_get hf.2 h1))
 | vslNil=>exact .vslNil
 | vsl vs hc hS hz hv hr=>exact .vsl vs hc hS hz hv hr
 | vptr vs hS hz hv hr=>exact .vptr vs hS hz hv hr
 | _=>simp [AV.idless] at hf
def CoeL (H:Nat→Option Blk) (Z:List Nat):List AV→List AV→Prop
 | [],[]=>True
 | a :: as,x :: xs=>Coe H Z a x∧CoeL H Z as xs
 | _,_=>False
theorem CoeL.get {H:Nat→Option Blk} {Z:List Nat} {as xs:List AV} (h:CoeL H Z as xs):as.length=xs.length∧∀ (k:Nat) a x,as[k]? = some a→xs[k]? = some x→Coe H Z a x:=by
 induction as generalizing xs with
 | nil=>cases xs with | nil=>exact ⟨rfl,fun k a x h=>by simp at h⟩ | cons x xs=>simp [CoeL] at h
 | cons a as ih =>
  cases xs with
  | nil=>simp [CoeL] at h
  | cons x xs =>
   obtain ⟨h1,h2⟩:=h
   obtain ⟨g1,g2⟩:=ih h2
   refine ⟨by simp [g1],fun k a' x' e1 e2 => ?_⟩
   cases k with
   | zero=>simp at e1 e2; subst e1; subst e2; exact h1
   | succ k=>simp at e1 e2; exact g2 k a' x' e1 e2
theorem Coe.local {H H':Nat→Option Blk} {Z:List Nat} {a b:AV} (h:Coe H Z a b) (hH:∀ i ∈ Z,H' i=H i):Coe H' Z a b:=by
 induction h with
 | refl=>exact .refl
 | nil=>exact .nil
 | vec h hn hi=>exact .vec (by rw [hH _ hi]; exact h) hn hi
 | ptr h hc hi=>exact .ptr (by rw [hH _ hi]; exact h) hc hi
 | agg hl h ih=>exact .agg hl ih
 | tup hl h ih=>exact .tup hl ih
 | fn hl h hl' h' ih ih'=>exact .fn hl ih hl' ih'
theorem CoeL.local {H H':Nat→Option Blk} {Z:List Nat} {as xs:List AV} (h:CoeL H Z as xs) (hH:∀ i ∈ Z,H' i=H i):CoeL H' Z as xs:=by
 induction as generalizing xs with
 | nil=>cases xs with | nil=>trivial | cons x xs=>simp [CoeL] at h
 | cons a as ih=>cases xs with | nil=>simp [CoeL] at h | cons x xs=>exact ⟨h.1.local hH,ih h.2⟩
theorem Mem.freeze {C:Ctx} {ρ:Names} {S:Nat→Prop} {H:Nat→Option Blk} {nx:Nat→Prop} {w:World} (h:Mem C ρ S H nx w) (Z:List Nat) (hz:∀ i ∈ Z,∃ k,H i=some k∧k.live=true) :
  Mem C ρ (frozenS S ρ Z) (fun i=>if i ∈ Z then some .dead else H i) nx w:=by
 have liveOf:∀ i k,(if i ∈ Z then some Blk.dead else H i)=some k→k.live=true→i ∉ Z∧H i=some k:=fun i k e hl=>by
  by_cases hi:i ∈ Z
  ·rw [if_pos hi] at e; cases e; cases hl
  ·rw [if_neg hi] at e; exact ⟨hi,e⟩
 refine h.step (fun _=>False) (Nat.le_refl _) (fun _ _ e=>e) (fun _ _ _=>rfl) (fun _ e=>e.elim) (Names.le.refl _) (fun i b e=>.inl ⟨i,e⟩) (fun _ e=>.inl e) (fun b hb => ?_) (fun i k e => ?_) (fun i k b e hl hb hs => ?_) (fun i j k l b e hl e' hl' => ?_) (fun i hi => ?_)
 ·rcases hb with hb | ⟨i,hi,hb⟩
  ·exact .inl hb
  ·obtain ⟨g1,g2⟩:=h.rin i b hb
   rcases g2 with g2 | g2
   ·exact .inr ⟨.inr g2,g1⟩
   ·exact .inr ⟨.inl g2,g1⟩
 ·by_cases hi:i ∈ Z
  ·rw [if_pos hi] at e; cases e; exact .inr trivial
  ·rw [if_neg hi] at e; exact .inl ⟨e,fun b e'=>⟨e',fun x=>x⟩⟩
 ·obtain ⟨g1,g2⟩:=liveOf i k e hl
  rcases hs with hs | ⟨j,hj,hjb⟩
  ·exact h.own i k b g2 hl hb hs
  ·obtain ⟨l,hl1,hl2⟩:=hz j hj
   have:=h.inj i j k l b g2 hl hl1 hl2 hb hjb
   subst this
   exact g1 hj
 ·obtain ⟨g1,g2⟩:=liveOf i k e hl
  obtain ⟨g3,g4⟩:=liveOf j l e' hl'
  exact h.inj i j k l b g2 hl g4 hl'
 ·obtain ⟨g1,g2⟩:=h.free i hi
  refine ⟨?_,g2⟩
  rw [if_neg]
  ·exact g1
  ·intro hz'; obtain ⟨k,hk,-⟩:=hz i hz'; rw [g1] at hk; cases hk
theorem foldl_dead:∀ (Z:List Nat) (H:Nat→Option Blk),(Z.map fun i=>(i,Blk.dead)).foldl (fun H p=>updH H p.1 p.2) H=fun i=>if i ∈ Z then some .dead else H i
 | [],H=>by simp
 | z :: Z,H=>by
  simp only [List.map_cons,List.foldl_cons]
  rw [foldl_dead Z]
  funext i
  by_cases h:i ∈ Z
  ·simp [h]
  ·by_cases h':i=z
   ·subst h'; simp [h,updH]
   ·simp [h,h',updH]
theorem pure_frz {C:Ctx} {ρ:Names} {S:Nat→Prop} {H:Nat→Option Blk} {nx:Nat→Prop} {w:World} {P:Program} {f:FuncId} {as xs:List AV} {res:AV} {Z:List Nat} {id:Nat} {vs:Array Value}
  (hs:Pure P f xs res) (hm:Mem C ρ S H nx w) (has:RelCs S w ρ as vs) (hc:CoeL H Z as xs) (hx:AV.idlessL xs=true) (hz:∀ i ∈ Z,∃ k,H i=some k∧k.live=true) :
  Calls P f vs w fun e w' => ∃ v,e = .returned v∧SG C ρ S H nx w { cond:=True,val:=res,ri:=Z,wr:=Z.map fun i=>(i,.dead) } id v w':=by
 have hl:=hc.get.1
 have hargs:RelCs (frozenS S ρ Z) w ρ xs vs:=by
  refine ⟨by rw [has.1,hl],fun k c v h1 h2 => ?_⟩
  have hk:=(List.getElem?_eq_some_iff.1 h1).1
  have ha:as[k]? = some as[k]:=by simp
  exact (hc.get.2 k _ c ha h1).rel hm (has.2 k _ v ha h2)
 refine (pure_call (id:=id) (Z:=[]) (H:=fun i=>if i ∈ Z then some .dead else H i) hs (hm.freeze Z hz) hargs rfl (fun k a x h1 h2=>by rw [h1] at h2; cases h2; exact .refl) (fun x hx' v hv=>hv.idless (by obtain ⟨k,hk⟩:=List.mem_iff_getElem?.1 hx'; exact idlessL_get hx hk)) (.inl rfl)).mono ?_
 rintro e w' ⟨v,rfl,ρ',S',h1,h2,h3,h4,h5,h6⟩
 refine ⟨v,rfl,ρ',S',h1,fun b hb=>h2 b (.inl hb),⟨h3.size,h3.shape,fun b vs T fz hb=>h3.same b vs T fz (.inl hb)⟩,?_,h5,h6⟩
 show Mem C ρ' S' ((Z.map fun i=>(i,Blk.dead)).foldl (fun H p=>updH H p.1 p.2) H) _ w'
 rw [foldl_dead]
 exact h4
inductive CallR (P:Program) (f:FuncId) (as:List AV) (H:Nat→Option Blk):Nat→Out→Prop
 | pure {id:Nat} {xs:List AV} {res:AV} {Z:List Nat} (hs:Pure P f xs res) (hc:CoeL H Z as xs) (hx:AV.idlessL xs=true) (hz:Z=[]∨res.flat=true):CallR P f as H id { cond:=True,val:=res,ri:=Z }
 | frz {id:Nat} {xs:List AV} {res:AV} {Z:List Nat} (hs:Pure P f xs res) (hc:CoeL H Z as xs) (hx:AV.idlessL xs=true) (hz:∀ i ∈ Z,∃ k,H i=some k∧k.live=true):CallR P f as H id { cond:=True,val:=res,ri:=Z,wr:=Z.map fun i=>(i,.dead) }
 | wr {id:Nat} {is Z:List Nat} {Hs Hs':List Blk} {xs:List AV} {r:AV} (hs:Spec P f xs Hs r Hs') (hl:is.length=Hs.length) (hnd:is.Nodup)
   (hH:∀ (j i:Nat) k,is[j]? = some i→Hs[j]? = some k→H i=some (k.ren (sgm is id))∧k.live=true∧k.idsLt is.length=true) (hx:AV.idsLtL is.length xs=true) (hl':Hs'.length≤is.length+8)
   (hc:CoeL H Z as (AV.renL (sgm is id) xs)) (hz:∀ i ∈ Z,∃ k,H i=some k∧k.live=true) (hd:∀ i ∈ is,i ∉ Z) :
   CallR P f as H id { cond:=True,val:=r.ren (sgm is id),ri:=Z ++ is,wr:=(Z.map fun i=>(i,.dead)) ++ (List.range Hs'.length).map fun j=>(sgm is id j,(Hs'.getD j .dead).ren (sgm is id)) }
theorem CallR.local {P:Program} {f:FuncId} {as:List AV} {H H':Nat→Option Blk} {id:Nat} {out:Out} (h:CallR P f as H id out) (hH:∀ i ∈ out.ri,H' i=H i):CallR P f as H' id out:=by
 cases h with
 | pure hs hc hx hz=>exact .pure hs (hc.local hH) hx hz
 | frz hs hc hx hz=>exact .frz hs (hc.local hH) hx (fun i hi=>by rw [hH i hi]; exact hz i hi)
 | wr hs hl hnd hB hx hl' hc hz hd =>
  refine .wr hs hl hnd (fun j i k h1 h2 => ?_) hx hl' (hc.local fun i hi=>hH i (by simp [hi])) (fun i hi=>by rw [hH i (by simp [hi])]; exact hz i hi) hd
  rw [hH i (by simp [List.mem_of_getElem? h1])]
  exact hB j i k h1 h2
theorem CallR.ent {P:Program} {f:FuncId} {as:List AV} {H:Nat→Option Blk} {id:Nat} {out:Out} (h:CallR P f as H id out):Ent P f:=by
 cases h with
 | pure hs hc hx hz=>exact hs.1
 | frz hs hc hx hz=>exact hs.1
 | wr hs hl hnd hB hx hl' hc hz hd=>exact hs.1
theorem CallR.calls {P:Program} {f:FuncId} {as:List AV} {id:Nat} {out:Out} {C:Ctx} {ρ:Names} {S:Nat→Prop} {H:Nat→Option Blk} {nx:Nat→Prop} {w:World} {vs:Array Value} (h:CallR P f as H id out)
  (hm:Mem C ρ S H nx w) (hid:∀ i,id≤i→i<id+8→nx i) (has:RelCs S w ρ as vs):Calls P f vs w fun e w' => ∃ v,e = .returned v∧SG C ρ S H nx w out id v w':=by
 cases h with
 | pure hs hc hx hz =>
  rename_i xs res Z
  exact pure_call hs hm has hc.get.1 hc.get.2 (fun x hx' v hv=>hv.idless (by obtain ⟨k,hk⟩:=List.mem_iff_getElem?.1 hx'; exact idlessL_get hx hk)) hz
 | frz hs hc hx hz=>exact pure_frz hs hm has hc hx hz
 | wr hs hl hnd hB hx hl' hc hz hd =>
  rename_i is Z Hs Hs' xs r
  have hargs:RelCs (frozenS S ρ Z) w ρ (AV.renL (sgm is id) xs) vs:=by
   refine ⟨by rw [has.1,hc.get.1],fun k c v h1 h2 => ?_⟩
   have hk:=(List.getElem?_eq_some_iff.1 h1).1
   have hle:=hc.get.1
   have ha:as[k]? = some (as[k]'(by omega)):=List.getElem?_eq_getElem (by omega)
   exact (hc.get.2 k _ c ha h1).rel hm (has.2 k _ v ha h2)
  refine (spec_call (H:=fun i=>if i ∈ Z then some .dead else H i) hs (hm.freeze Z hz) hid hl hnd (fun j i k h1 h2 => ?_) hx hl' hargs).mono ?_
  ·rw [if_neg (hd i (List.mem_of_getElem? h1))]; exact hB j i k h1 h2
  ·rintro e w' ⟨v,rfl,ρ',S',h1,h2,h3,h4,h5,h6⟩
   refine ⟨v,rfl,ρ',S',h1,fun b hb=>h2 b (.inl hb),⟨h3.size,h3.shape,fun b vs T fz hb=>h3.same b vs T fz (.inl hb)⟩,?_,h5,h6⟩
   show Mem C ρ' S' (((Z.map fun i=>(i,Blk.dead)) ++ (List.range Hs'.length).map fun j=>(sgm is id j,(Hs'.getD j .dead).ren (sgm is id))).foldl (fun H p=>updH H p.1 p.2) H) _ w'
   rw [List.foldl_append,foldl_dead]
   exact h4
def fnOf:AV→Option (FuncId × List AV × List AV)
 | .lit (.func (.func f) xs ys)=>some (f,xs.toList.map .lit,ys.toList.map .lit)
 | .fn (.func f) xs ys=>some (f,xs,ys)
 | _=>none
theorem fnOf_rel {S:Nat→Prop} {w:World} {ρ:Names} {x:AV} {v:Value} {f:FuncId} {first cap:List AV} (h:fnOf x=some (f,first,cap)) (hr:Rel S w ρ x v) : ∃ ys vs,v = .func (.func f) ys vs∧RelCs S w ρ first ys∧RelCs S w ρ cap vs:=by
 unfold fnOf at h
 split at h
 ·cases h
  obtain rfl:=hr.lit_inv
  refine ⟨_,_,rfl,⟨by simp,fun k c v h1 h2 => ?_⟩,⟨by simp,fun k c v h1 h2 => ?_⟩⟩
  all_goals
   simp at h1
   obtain ⟨u,hu,rfl⟩:=h1
   rw [h2] at hu; cases hu; exact .lit _
 ·cases h
  obtain ⟨ys,vs,rfl,h1,h2,h3,h4⟩:=hr.fn_inv
  exact ⟨ys,vs,rfl,⟨h1,h2⟩,⟨h3,h4⟩⟩
 ·cases h
theorem RelCs.append {S:Nat→Prop} {w:World} {ρ:Names} {as bs:List AV} {us vs:Array Value} (h:RelCs S w ρ as us) (h':RelCs S w ρ bs vs):RelCs S w ρ (as ++ bs) (us ++ vs):=by
 refine ⟨by simp [h.1,h'.1],fun k c v h1 h2 => ?_⟩
 rw [List.getElem?_append] at h1
 rw [Array.getElem?_append,h.1] at h2
 split at h1
 ·rename_i hk; rw [if_pos hk] at h2; exact h.2 k c v h1 h2
 ·rename_i hk; rw [if_neg hk] at h2; exact h'.2 _ c v h1 h2
inductive OpR (P:Program) (o:Op) (id:Nat) (r:Operand→AV) (H:Nat→Option Blk):Out→Prop
 | op {out:Out} (h:Takes P o id r H out):OpR P o id r H out
 | call {out:Out} {cl:Call} {fo:Operand} {f:FuncId} {first cap:List AV} (ho:o = .call cl) (hcl:cl.callee = .value fo) (hf:fnOf (strip (r fo))=some (f,first,cap)) (hg:∀ x ∈ cl.operands,grd (r x)=true)
   (h:CallR P f (first ++ cl.args.toList.map (fun x=>strip (r x)) ++ cap) H id out):OpR P o id r H out
 | frz {out:Out} {Z:List Nat} {r':Operand→AV} (h:Takes P o id r' (fun i=>if i ∈ Z then some .dead else H i) out) (hr:∀ x ∈ o.operands,Coe H Z (r x) (r' x)) (hn:∀ x,x ∉ o.operands→r' x = .top)
   (hz:∀ i ∈ Z,∃ k,H i=some k∧k.live=true):OpR P o id r H { out with ri:=Z ++ out.ri,wr:=(Z.map fun i=>(i,.dead)) ++ out.wr }
theorem OpR.local {P:Program} {o:Op} {id:Nat} {r r':Operand→AV} {H H':Nat→Option Blk} {out:Out} (h:OpR P o id r H out) (hr:∀ x ∈ o.operands,r' x=r x) (hH:∀ i ∈ out.ri,H' i=H i):OpR P o id r' H' out:=by
 cases h with
 | op h=>exact .op (h.local hr hH)
 | call ho hcl hf hg h =>
  subst ho
  rename_i cl fo f first cap
  have hfo:r' fo=r fo:=hr fo (by simp [Op.operands,Call.operands,hcl])
  have hargs:∀ x ∈ cl.args,r' x=r x:=fun x hx=>hr x (by simp only [Op.operands,Call.operands]; simp [hx])
  have e:cl.args.toList.map (fun x=>strip (r' x))=cl.args.toList.map (fun x=>strip (r x)):=List.map_congr_left (fun x hx=>by rw [hargs x (by simpa using hx)])
  exact .call rfl hcl (by rw [hfo]; exact hf) (fun x hx=>by rw [hr x hx]; exact hg x hx) (by rw [e]; exact h.local hH)
 | frz h hc hn hz =>
  rename_i out Z r2
  refine .frz (h.local (fun _ _=>rfl) fun i hi => ?_) (fun x hx=>by rw [hr x hx]; exact (hc x hx).local fun i hi=>hH i (by simp [hi])) hn (fun i hi=>by rw [hH i (by simp [hi])]; exact hz i hi)
  by_cases e:i ∈ Z
  ·simp [e]
  ·simp only [e,if_false]; exact hH i (by simp [hi])
theorem Takes.noDefer {P:Program} {c:Call} {id:Nat} {r:Operand→AV} {H:Nat→Option Blk} {out:Out} (h:Takes P (.defer c) id r H out):False:=by
 induction h with
 | weak _ _ ih=>exact ih
 | pure h _=>cases h
 | mem h _=>cases h
 | make h _=>cases h
 | more h _=>cases h
theorem OpR.wp {P:Program} {F:Fence} (hF:FOK F) {o:Oper} {id:Nat} {a:Act} {A:Nat→AV} {H:Nat→Option Blk} {out:Out} {C:Ctx} {N:Nat} {ρ:Names} {S:Nat→Prop} {nx:Nat→Prop} {w:World} {r:Operand→AV} (h:OpR P o.op id r H out)
  (hm:Rep C N ρ S A H nx a w) (hid:∀ i,id≤i→i<id+8→nx i) (hr:∀ x,Rel S w ρ (r x) (a.eval x)) {K:Act→World→Prop} {Q:Exit→Act→World→Prop} (hK:∀ v w',SG C ρ S H nx w out id v w'→K (a.put o.dst v) w'):o.wpIn F 0 P a w K Q:=by
 cases h with
 | op h =>
  obtain ⟨v,w',h1,h2⟩:=(h.good (o:=o) (ev:=a.eval) hm.mem (hid id (Nat.le_refl _) (by omega)) hr).sg
  have hd:∀ c,o.op≠.defer c:=fun c e=>by rw [e] at h; exact h.noDefer
  refine ⟨fun f _=>hF.fn f,?_⟩
  rw [Oper.semAt_eq _ _ _ hd]
  rcases h1 with h1 | ⟨h1,rfl⟩
  ·rw [h1]; exact hK v w' h2
  ·rw [h1]; exact hK undef w' h2
 | call ho hcl hf hg h =>
  rename_i cl fo f first cap
  have hd:∀ c,o.op≠.defer c:=fun c e=>by rw [ho] at e; cases e
  refine ⟨fun f _=>hF.fn f,?_⟩
  rw [Oper.semAt_eq _ _ _ hd]
  have hfo:=(hr fo).strip (hg fo (by simp [Call.operands,hcl]))
  obtain ⟨ys,vs,e,h1,h2⟩:=fnOf_rel hf hfo
  have hargs:RelCs S w ρ (cl.args.toList.map fun x=>strip (r x)) (cl.args.map a.eval):=rel_map (fun x hx=>hg x (by simp [Call.operands,hx])) hr
  have hrun:(execOp a.eval o).run P w = .ok (.enter f (ys ++ cl.args.map a.eval ++ vs)) w:=by
   have:execOp a.eval o=(do let d ← resolve a.eval cl o.type; invoke d.target d.args):=by
    unfold execOp; rw [ho]
   rw [this]
   simp only [resolve,hcl,Deferred.ofValue,e,Sem.run_bind,Sem.run_pure,Result.andThen_ok,invoke]
   exact h.ent _ _
  rw [hrun]
  refine ⟨(fun hd=>by (rw [hF.depth] at hd; cases hd)),?_⟩
  refine (hF.calls (h.calls hm.mem hid ((h1.append hargs).append h2))).mono ?_
  rintro e w' ⟨v,rfl,hsg⟩
  exact hK v w' hsg
 | frz h hc hn hz =>
  rename_i out Z r2
  obtain ⟨v,w',h1,ρ',S',g1,g2,g3,g4,g5,g6⟩:=(h.good (o:=o) (ev:=a.eval) (hm.mem.freeze Z hz) (hid id (Nat.le_refl _) (by omega)) (fun x=>by
   by_cases hx:x ∈ o.op.operands
   ·exact (hc x hx).rel hm.mem (hr x)
   ·rw [hn x hx]; exact .top _)).sg
  have h2:SG C ρ S H nx w { out with ri:=Z ++ out.ri,wr:=(Z.map fun i=>(i,.dead)) ++ out.wr } id v w':=by
   refine ⟨ρ',S',g1,fun b hb=>g2 b (.inl hb),⟨g3.size,g3.shape,fun b vs T fz hb=>g3.same b vs T fz (.inl hb)⟩,?_,g5,g6⟩
   rw [List.foldl_append,foldl_dead]
   exact g4
  have hd:∀ c,o.op≠.defer c:=fun c e=>by rw [e] at h; exact h.noDefer
  refine ⟨fun f _=>hF.fn f,?_⟩
  rw [Oper.semAt_eq _ _ _ hd]
  rcases h1 with h1 | ⟨h1,rfl⟩
  ·rw [h1]; exact hK v w' h2
  ·rw [h1]; exact hK undef w' h2
def opd (A:Nat→AV):Operand→AV
 | .tmp t=>A t
 | .const v=>.lit v
 | .global g=>.lit (.pointer (some ⟨g,0,none⟩))
 | .func f=>.fn (.func f) [] []
theorem opd_rel {C:Ctx} {N:Nat} {ρ:Names} {S:Nat→Prop} {A:Nat→AV} {H:Nat→Option Blk} {nx:Nat→Prop} {a:Act} {w:World} (h:Rep C N ρ S A H nx a w) (hA:∀ t,N≤t→A t = .top):∀ x,Rel S w ρ (opd A x) (a.eval x):=by
 intro x
 cases x with
 | tmp t =>
  simp only [opd,Act.eval]
  rcases Nat.lt_or_ge t a.tmps.size with hlt | hge
  ·exact h.slots t _ (by simp [hlt])
  ·rw [hA t (by rw [← h.size]; exact hge)]; exact .top _
 | const v=>exact .lit v
 | global g=>exact .lit _
 | func f=>exact .fn rfl (fun k c v h=>by simp at h) rfl (fun k c v h=>by simp at h)
def gv (x:AV) (want:Bool):Option Bool :=
 match x with
 | .lit (.bool b)=>some (if want then b else !b)
 | .when g (.lit (.bool b))=>some (g && (if want then b else !b))
 | .lit (.tuple _)=>some false
 | _=>none
inductive StpR (P:Program) (ops:Array Oper) (o:Oper) (id:Nat) (A:Nat→AV) (H:Nat→Option Blk):Out→Prop
 | plain {out:Out} (hg:o.guard=none) (h:OpR P o.op id (opd A) H out):StpR P ops o id A H out
 | sym {out:Out} {j d:Nat} {want c:Bool} (hg:o.guard=some (j,want)) (hd:(ops[j]?).bind (·.dst)=some d) (hc:gv (A d) want=some c) (h:c=true→OpR P o.op id (opd A) H out) (hw:out.wr=[]):StpR P ops o id A H { out with val:=.when c out.val }
 | on {out:Out} {j d:Nat} {want:Bool} (hg:o.guard=some (j,want)) (hd:(ops[j]?).bind (·.dst)=some d) (hc:gv (A d) want=some true) (h:OpR P o.op id (opd A) H out):StpR P ops o id A H out
 | off {j d:Nat} {want:Bool} (hg:o.guard=some (j,want)) (hd:(ops[j]?).bind (·.dst)=some d) (hc:gv (A d) want=some false):StpR P ops o id A H { cond:=True,val:=.lit undef }
theorem StpR.local {P:Program} {ops:Array Oper} {o:Oper} {id:Nat} {A A':Nat→AV} {H H':Nat→Option Blk} {out:Out} (h:StpR P ops o id A H out) (hA:∀ t ∈ o.looksAt ops,A' t=A t) (hH:∀ i ∈ out.ri,H' i=H i):StpR P ops o id A' H' out:=by
 have hr:∀ x ∈ o.op.operands,opd A' x=opd A x:=fun x hx=>by
  cases x with
  | tmp t =>
   refine hA t ?_
   simp only [Oper.looksAt,List.mem_append,List.mem_filterMap]
   exact .inl ⟨.tmp t,by simpa using hx,rfl⟩
  | _=>rfl
 have hgd:∀ {j d want},o.guard=some (j,want)→(ops[j]?).bind (·.dst)=some d→A' d=A d:=fun hg hd=>by
  refine hA _ ?_
  simp only [Oper.looksAt,List.mem_append,hg,hd]
  exact .inr (by simp)
 cases h with
 | plain hg h=>exact .plain hg (h.local hr hH)
 | sym hg hd hc h hw=>exact .sym hg hd (by rw [hgd hg hd]; exact hc) (fun e=>(h e).local hr hH) hw
 | on hg hd hc h=>exact .on hg hd (by rw [hgd hg hd]; exact hc) (h.local hr hH)
 | off hg hd hc=>exact .off hg hd (by rw [hgd hg hd]; exact hc)
end Go.Proofs.Ytoncoofmijjgeaa.Sep
