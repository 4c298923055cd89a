/-
  Texts of one seat, joined. No condition. (This text proves no statement by itself.)
-/
import Derived.Test.YtoncoofmijjgeaaKSep21
import Derived.Test.YtoncoofmijjgeaaKSo1
import Derived.Test.YtoncoofmijjgeaaKQ1
import Derived.Shelf.Slices.Delete
import Derived.WalkKit
import Derived.Carry
import Derived.MapKept
import Derived.Laws.EntriesVeiled
namespace Go.Proofs.Ytoncoofmijjgeaa.M
open Go
set_option linter.unusedVariables false
set_option linter.unusedSimpArgs false
def bs (c:Nat→Bool):Nat→Nat→Nat→Nat
 | 0,i,_=>i
 | f+1,i,j=>if i<j then (if c ((i+j)/2)=true then bs c f i ((i+j)/2) else bs c f ((i+j)/2+1) j) else i
def Lst (c:Nat→Bool) (n r:Nat):Prop:=r≤n∧(∀ x,x<r→c x=false)∧(r<n→c r=true)
theorem Lst.uniq {c:Nat→Bool} {n r s:Nat} (h:Lst c n r) (h':Lst c n s):r=s:=by
 obtain ⟨a1,a2,a3⟩:=h
 obtain ⟨b1,b2,b3⟩:=h'
 rcases Nat.lt_trichotomy r s with g | g | g
 ·have:=a3 (by omega); rw [b2 r g] at this; cases this
 ·exact g
 ·have:=b3 (by omega); rw [a2 s g] at this; cases this
theorem bs_ok {c:Nat→Bool} {n:Nat} (hm:∀ x y,x≤y→c x=true→c y=true):∀ f i j,j-i<2 ^ f→i≤j→j≤n→(∀ x,x<i→c x=false)→(j<n→c j=true)→Lst c n (bs c f i j)
 | 0,i,j,h,h1,h2,h3,h4=>by
  have e:i=j:=by rw [Nat.pow_zero] at h; omega
  subst e
  exact ⟨h2,h3,h4⟩
 | f+1,i,j,h,h1,h2,h3,h4=>by
  unfold bs
  rw [Nat.pow_succ] at h
  split
  ·rename_i hlt
   split
   ·rename_i hc
    exact bs_ok hm f i _ (by omega) (by omega) (by omega) h3 (fun _=>hc)
   ·rename_i hc
    refine bs_ok hm f _ j (by omega) (by omega) h2 (fun x hx => ?_) h4
    cases hx':c x
    ·rfl
    ·exact absurd (hm x _ (by omega) hx') hc
  ·have e:i=j:=by omega
   subst e
   exact ⟨h2,h3,h4⟩
def root (n:Int):Nat:=bs (fun x=>decide (n≤(x:Int)*x)) 21 0 1048576
theorem sq_le {x y:Int} (h0:0≤x) (h:x≤y):x*x≤y*y:=Int.mul_le_mul h h h0 (by omega)
theorem root_lst (n:Int):Lst (fun x=>decide (n≤(x:Int)*x)) 1048576 (root n) :=
 bs_ok (fun x y h hx=>by
  simp only [decide_eq_true_eq] at hx ⊢
  exact Int.le_trans hx (sq_le (by omega) (by omega))) 21 0 1048576 (by decide) (by omega) (by omega) (fun x hx=>by omega) (fun h=>by omega)
theorem root_le (n:Int):root n≤1048576:=(root_lst n).1
theorem root_lt {n:Int} {x:Nat} (h:x<root n):(x:Int)*x<n:=by
 have:=(root_lst n).2.1 x h
 simpa using this
theorem root_ge {n:Int} (h:n≤1099511627776):n≤(root n:Int)*root n:=by
 rcases Nat.lt_or_ge (root n) 1048576 with g | g
 ·have:=(root_lst n).2.2 g
  simpa using this
 ·have:=root_le n
  rw [show root n=1048576 by omega]
  exact h
theorem root_le_of {n:Int} {r:Nat} (h:n≤(r:Int)*r):root n≤r:=by
 rcases Nat.lt_or_ge r (root n) with g | g
 ·have:=root_lt g; omega
 ·exact g
structure Gd where
 w:Int
 h:Int
 s:Int
 v0:Int
 v1:Int
 d0:Int
 d1:Int
 r:Int
 deriving DecidableEq
namespace Gd
def ok (g:Gd):Prop:=(1≤g.w∧g.w≤24)∧(1≤g.h∧g.h≤24)∧(1≤g.s∧g.s≤10000)∧(100≤g.v0∧g.v0≤g.v1∧g.v1≤20000)∧(0≤g.d0∧g.d0≤g.d1∧g.d1≤700000)∧(0≤g.r∧g.r≤1000)
instance (g:Gd):Decidable g.ok:=by unfold ok; exact inferInstance
def er (g:Gd):Int:=if g.ok then 0 else 3
def cell (g:Gd) (c:Int):Prop:=0≤c∧c≤g.w*g.h-1
instance (g:Gd) (c:Int):Decidable (g.cell c):=by unfold cell; exact inferInstance
def dx (g:Gd) (a b:Int):Int:=max (a%g.w-b%g.w) (-(a%g.w-b%g.w))
def dy (g:Gd) (a b:Int):Int:=max (a/g.w-b/g.w) (-(a/g.w-b/g.w))
def sq (x:Int):Int:=x*x
def near (g:Gd) (a b:Int):Int:=sq (max 0 (g.dx a b-1)*g.s)+sq (max 0 (g.dy a b-1)*g.s)+sq g.d0
def far (g:Gd) (a b:Int):Int:=sq ((g.dx a b+1)*g.s)+sq ((g.dy a b+1)*g.s)+sq g.d1
def D0 (g:Gd) (a b:Int):Int:=(root (g.near a b+1):Int)-1
def D1 (g:Gd) (a b:Int):Int:=root (g.far a b)
def T0 (g:Gd) (a b:Int):Int:=1000*g.D0 a b/g.v1
def T1 (g:Gd) (a b:Int):Int:=(1000*g.D1 a b-1)/g.v0+1
end Gd
def fall (d:Int):Int:=30*(Nat.log2 (d/1000+1).toNat:Int)
namespace Gd
def S0 (g:Gd) (k a b:Int):Int:=100*k-fall (g.D1 a b)-g.r
def S1 (g:Gd) (k a b:Int):Int:=100*k-fall (g.D0 a b)+g.r
theorem sq_bd {x y:Int} (h0:0≤x) (h:x≤y):0≤sq x∧sq x≤sq y:=⟨Int.mul_nonneg h0 h0,sq_le h0 h⟩
theorem cell_xy {g:Gd} (hk:g.ok) {a:Int} (ha:g.cell a):0≤a%g.w∧a%g.w≤23∧0≤a/g.w∧a/g.w≤23:=by
 obtain ⟨⟨w1,w2⟩,⟨h1,h2⟩,-⟩:=hk
 obtain ⟨a1,a2⟩:=ha
 have m1:=Int.emod_nonneg a (show g.w≠0 by omega)
 have m2:=Int.emod_lt_of_pos a (show 0<g.w by omega)
 have q1:=Int.ediv_nonneg a1 (show 0≤g.w by omega)
 have q2:a/g.w<g.h:=Int.ediv_lt_of_lt_mul (by omega) (by rw [Int.mul_comm]; omega)
 omega
theorem dxy {g:Gd} (hk:g.ok) {a b:Int} (ha:g.cell a) (hb:g.cell b):0≤g.dx a b∧g.dx a b≤23∧0≤g.dy a b∧g.dy a b≤23:=by
 have:=cell_xy hk ha
 have:=cell_xy hk hb
 unfold dx dy
 omega
theorem near_far {g:Gd} (hk:g.ok) {a b:Int} (ha:g.cell a) (hb:g.cell b) :
  (0≤max 0 (g.dx a b-1)*g.s∧max 0 (g.dx a b-1)*g.s≤(g.dx a b+1)*g.s)∧(0≤max 0 (g.dy a b-1)*g.s∧max 0 (g.dy a b-1)*g.s≤(g.dy a b+1)*g.s) ∧
  (1≤(g.dx a b+1)*g.s∧(g.dx a b+1)*g.s≤240000)∧(1≤(g.dy a b+1)*g.s∧(g.dy a b+1)*g.s≤240000)∧0≤g.near a b∧g.near a b≤g.far a b∧2≤g.far a b∧g.far a b≤605200000000:=by
 have hd:=dxy hk ha hb
 obtain ⟨⟨w1,w2⟩,⟨h1,h2⟩,⟨s1,s2⟩,-,⟨d1,d2,d3⟩,-⟩:=hk
 unfold near far
 generalize g.dx a b=x at *
 generalize g.dy a b=y at *
 have k1:∀ x:Int,0≤x→x≤23→(0≤max 0 (x-1)*g.s∧max 0 (x-1)*g.s≤(x+1)*g.s)∧(1≤(x+1)*g.s∧(x+1)*g.s≤240000):=fun x hx hx'=>by
  have a1:max 0 (x-1)*g.s≤(x+1)*g.s:=Int.mul_le_mul_of_nonneg_right (by omega) (by omega)
  have a2:0≤max 0 (x-1)*g.s:=Int.mul_nonneg (by omega) (by omega)
  have a3:(x+1)*g.s≤24*10000:=Int.mul_le_mul (by omega) s2 (by omega) (by omega)
  have a4:1*1≤(x+1)*g.s:=Int.mul_le_mul (by omega) s1 (by omega) (by omega)
  omega
 obtain ⟨x1,x2⟩:=k1 x hd.1 hd.2.1
 obtain ⟨y1,y2⟩:=k1 y hd.2.2.1 hd.2.2.2
 refine ⟨x1,y1,x2,y2,?_⟩
 generalize max 0 (x-1)*g.s=p at *
 generalize max 0 (y-1)*g.s=q at *
 generalize (x+1)*g.s=p' at *
 generalize (y+1)*g.s=q' at *
 have b1:=sq_bd x1.1 x1.2
 have b2:=sq_bd y1.1 y1.2
 have b3:=sq_bd (x:=p') (y:=240000) (by omega) x2.2
 have b4:=sq_bd (x:=q') (y:=240000) (by omega) y2.2
 have b5:=sq_bd d1 d2
 have b6:=sq_bd (x:=g.d1) (y:=700000) (by omega) d3
 have b7:=sq_bd (x:=1) (y:=p') (by omega) x2.1
 have b8:=sq_bd (x:=1) (y:=q') (by omega) y2.1
 have e1:sq 240000=57600000000:=rfl
 have e2:sq 700000=490000000000:=rfl
 have e3:sq 1=1:=rfl
 omega
theorem D_bd {g:Gd} (hk:g.ok) {a b:Int} (ha:g.cell a) (hb:g.cell b):0≤g.D0 a b∧g.D0 a b≤g.D1 a b∧2≤g.D1 a b∧g.D1 a b≤1048576:=by
 obtain ⟨-,-,-,-,n1,n2,n3,n4⟩:=near_far hk ha hb
 have hle:=root_le (g.far a b)
 have h1:root (g.near a b+1)≤root (g.far a b)+1:=by
  apply root_le_of
  have:=root_ge (n:=g.far a b) (by omega)
  have e:((root (g.far a b)+1:Nat):Int)*(root (g.far a b)+1:Nat)=(root (g.far a b):Int)*root (g.far a b)+2*root (g.far a b)+1:=by
   rw [Int.natCast_add,Int.add_mul,Int.mul_add]
   simp
   omega
  rw [e]
  omega
 have h2:1≤root (g.near a b+1):=by
  rcases Nat.lt_or_ge (root (g.near a b+1)) 1 with c | c
  ·have:=root_ge (n:=g.near a b+1) (by omega)
   rw [show root (g.near a b+1)=0 by omega] at this
   omega
  ·exact c
 have h3:2≤root (g.far a b):=by
  rcases Nat.lt_or_ge (root (g.far a b)) 2 with c | c
  ·have:=root_ge (n:=g.far a b) (by omega)
   have:(root (g.far a b):Int)*root (g.far a b)≤1*1:=sq_le (by omega) (by omega)
   omega
  ·exact c
 unfold D0 D1
 omega
theorem T_bd {g:Gd} (hk:g.ok) {a b:Int} (ha:g.cell a) (hb:g.cell b):0≤g.T0 a b∧g.T0 a b≤g.T1 a b∧1≤g.T1 a b∧g.T1 a b≤10485760:=by
 obtain ⟨d1,d2,d3,d4⟩:=D_bd hk ha hb
 obtain ⟨-,-,-,⟨v1,v2,v3⟩,-⟩:=hk
 unfold T0 T1
 generalize g.D0 a b=x at *
 generalize g.D1 a b=y at *
 have a1:0≤1000*x/g.v1:=Int.ediv_nonneg (by omega) (by omega)
 have a2:1000*x/g.v1≤1000*y/g.v0:=by
  have h1:1000*x/g.v1≤1000*y/g.v1:=Int.ediv_le_ediv (by omega) (by omega)
  have h2:1000*y/g.v1≤1000*y/g.v0:=by
   rw [Int.le_ediv_iff_mul_le (by omega)]
   have h3:1000*y/g.v1*g.v0≤1000*y/g.v1*g.v1:=Int.mul_le_mul_of_nonneg_left v2 (Int.ediv_nonneg (by omega) (by omega))
   have h4:=Int.ediv_mul_le (1000*y) (show g.v1≠0 by omega)
   omega
  omega
 have a3:1000*y/g.v0≤(1000*y-1)/g.v0+1:=by
  have h1:1000*y/g.v0≤(1000*y-1+g.v0*1)/g.v0:=Int.ediv_le_ediv (by omega) (by omega)
  rw [Int.add_mul_ediv_left _ _ (by omega)] at h1
  exact h1
 have a4:0≤(1000*y-1)/g.v0:=Int.ediv_nonneg (by omega) (by omega)
 have a5:(1000*y-1)/g.v0<10485760:=Int.ediv_lt_of_lt_mul (by omega) (by
  have:10485760*100≤10485760*g.v0:=Int.mul_le_mul_of_nonneg_left v1 (by omega)
  omega)
 omega
end Gd
theorem fall_bd {d:Int} (h0:0≤d) (h:d≤1048576):0≤fall d∧fall d≤330:=by
 unfold fall
 have h1:(d/1000+1).toNat<2 ^ 11:=by
  have:d/1000<1049:=by omega
  have e:(2:Nat) ^ 11=2048:=rfl
  omega
 have h2:Nat.log2 (d/1000+1).toNat<11:=(Nat.log2_lt (by omega)).2 h1
 omega
end Go.Proofs.Ytoncoofmijjgeaa.M
namespace Go.Proofs.Ytoncoofmijjgeaa.M
open Go
set_option linter.unusedVariables false
set_option linter.unusedSimpArgs false
def ixF (c:Nat→Bool):Nat→Nat→Int
 | 0,_ => -1
 | f+1,i=>if c i=true then (i:Int) else ixF c f (i+1)
theorem ixF_neg {c:Nat→Bool} : ∀ {f i:Nat},0≤ixF c f i ↔ ∃ k,i≤k∧k<i+f∧c k=true
 | 0,i=>by unfold ixF; exact ⟨fun h=>by omega,fun ⟨k,h1,h2,_⟩=>by omega⟩
 | f+1,i=>by
  unfold ixF
  split
  ·rename_i h
   exact ⟨fun _=>⟨i,by omega,by omega,h⟩,fun _=>by omega⟩
  ·rename_i h
   rw [ixF_neg (f:=f) (i:=i+1)]
   constructor
   ·rintro ⟨k,h1,h2,h3⟩; exact ⟨k,by omega,by omega,h3⟩
   ·rintro ⟨k,h1,h2,h3⟩
    rcases Nat.eq_or_lt_of_le h1 with e | e
    ·subst e; exact absurd h3 h
    ·exact ⟨k,by omega,by omega,h3⟩
def fe (e:Nat→Int):Nat→Nat→Int
 | 0,_=>0
 | f+1,i=>if e i=0 then fe e f (i+1) else e i
theorem fe_step {e:Nat→Int} {n i:Nat} (h:i<n) (h0:e i=0):fe e (n-i) i=fe e (n-(i+1)) (i+1):=by
 obtain ⟨f,hf⟩ : ∃ f,n-i=f+1:=⟨n-i-1,by omega⟩
 rw [hf,show n-(i+1)=f by omega]
 conv=>lhs; unfold fe
 rw [if_pos h0]
theorem fe_stop {e:Nat→Int} {n i:Nat} (h:i<n) (h0:e i≠0):fe e (n-i) i=e i:=by
 obtain ⟨f,hf⟩ : ∃ f,n-i=f+1:=⟨n-i-1,by omega⟩
 rw [hf]
 unfold fe
 rw [if_neg h0]
theorem fe_end {e:Nat→Int} {n i:Nat} (h:n≤i):fe e (n-i) i=0:=by
 rw [show n-i=0 by omega]; rfl
theorem fe_zero {e:Nat→Int} : ∀ {f i:Nat},fe e f i=0↔∀ k,i≤k→k<i+f→e k=0
 | 0,i=>by unfold fe; simp; intro k h1 h2; omega
 | f+1,i=>by
  unfold fe
  split
  ·rename_i h
   rw [fe_zero (f:=f) (i:=i+1)]
   constructor
   ·intro g k h1 h2
    rcases Nat.eq_or_lt_of_le h1 with e | e
    ·subst e; exact h
    ·exact g k (by omega) (by omega)
   ·intro g k h1 h2; exact g k (by omega) (by omega)
  ·rename_i h
   constructor
   ·intro g; exact absurd g h
   ·intro g; exact g i (by omega) (by omega)
theorem fe_all {e:Nat→Int} {n:Nat} : fe e n 0=0↔∀ k,k<n→e k=0:=by
 rw [fe_zero]
 constructor
 ·intro h k hk; exact h k (by omega) (by omega)
 ·intro h k _ hk; exact h k (by omega)
namespace Gd
def all (g:Gd) (n:Nat) (x:Nat→Int):Prop:=∀ i,i<n→g.cell (x i)
instance (g:Gd) (n:Nat) (x:Nat→Int):Decidable (g.all n x):=by unfold all; exact inferInstance
def kn (g:Gd) (n:Nat) (x:Nat→Int):Int:=if g.ok then (if g.all n x then 0 else 4) else 3
def kn2 (g:Gd) (a b:Int):Int:=if g.ok then (if g.cell a∧g.cell b then 0 else 4) else 3
theorem kn2_ok {g:Gd} {a b:Int} : g.kn2 a b=0↔g.ok∧g.cell a∧g.cell b:=by
 unfold kn2
 split
 ·rename_i h; split <;> simp [h, *]
 ·rename_i h; simp [h]
theorem kn_two {g:Gd} {n:Nat} {x:Nat→Int} (hn:n=2):g.kn n x=g.kn2 (x 0) (x 1):=by
 have e:g.all n x↔(g.cell (x 0)∧g.cell (x 1)):=by
  unfold all
  subst hn
  constructor
  ·intro h; exact ⟨h 0 (by omega),h 1 (by omega)⟩
  ·rintro ⟨h1,h2⟩ i hi
   rcases i with _ | _ | i
   ·exact h1
   ·exact h2
   ·omega
 unfold kn kn2
 simp only [e]
def stE (g:Gd) (k a b:Int):Int:=if g.kn2 a b=0 then (if 1≤k∧k≤10 then 0 else 3) else g.kn2 a b
end Gd
structure Sc where
 k:Int
 c:Int
 q:Int
 a:Int
 b:Int
 deriving DecidableEq
namespace Gd
def srE (g:Gd) (s:Sc):Int:=if ¬ (1≤s.k∧s.k≤3) then 2 else if ¬ g.cell s.c then 4 else if ¬ ((1≤s.q∧s.q≤10)∧0≤s.a∧s.a≤s.b∧s.b≤1000000000) then 3 else 0
def srL (g:Gd) (n:Nat) (s:Nat→Sc):Int:=if 256<n then 9 else fe (fun i=>g.srE (s i)) n 0
def csE (g:Gd) (n:Nat) (s:Nat→Sc):Int:=if g.ok then g.srL n s else 3
def Sok (g:Gd) (s:Sc):Prop:=(1≤s.k∧s.k≤3)∧g.cell s.c∧(1≤s.q∧s.q≤10)∧0≤s.a∧s.a≤s.b∧s.b≤1000000000
theorem srE_ok {g:Gd} {s:Sc} : g.srE s=0↔g.Sok s:=by
 unfold srE Sok
 split
 ·rename_i h; exact ⟨fun h'=>by omega,fun h'=>absurd h'.1 h⟩
 ·rename_i h
  split
  ·rename_i h2; exact ⟨fun h'=>by omega,fun h'=>absurd h'.2.1 h2⟩
  ·rename_i h2
   split
   ·rename_i h3; exact ⟨fun h'=>by omega,fun h'=>absurd h'.2.2 h3⟩
   ·rename_i h3
    exact ⟨fun _=>⟨Decidable.not_not.1 h,Decidable.not_not.1 h2,Decidable.not_not.1 h3⟩,fun _=>rfl⟩
theorem srL_ok {g:Gd} {n:Nat} {s:Nat→Sc} : g.srL n s=0↔n≤256∧∀ i,i<n→g.Sok (s i):=by
 unfold srL
 split
 ·rename_i h; constructor <;> intro h' <;> omega
 ·rename_i h
  rw [fe_all]
  constructor
  ·intro h'; exact ⟨by omega,fun i hi=>srE_ok.1 (h' i hi)⟩
  ·intro h' i hi; exact srE_ok.2 (h'.2 i hi)
theorem csE_ok {g:Gd} {n:Nat} {s:Nat→Sc} : g.csE n s=0↔g.ok∧n≤256∧∀ i,i<n→g.Sok (s i):=by
 unfold csE
 split
 ·rename_i h; rw [srL_ok]; simp [h]
 ·rename_i h; simp [h]
end Gd
end Go.Proofs.Ytoncoofmijjgeaa.M
namespace Go.Proofs.Ytoncoofmijjgeaa.M
open Go
set_option linter.unusedVariables false
set_option linter.unusedSimpArgs false
def sumN (φ:Nat→Int):Nat→Int
 | 0=>0
 | n+1=>sumN φ n+φ n
theorem sumN_congr {φ ψ:Nat→Int} : ∀ {n:Nat},(∀ k,k<n→φ k=ψ k)→sumN φ n=sumN ψ n
 | 0,_=>rfl
 | n+1,h=>by unfold sumN; rw [sumN_congr fun k hk=>h k (by omega),h n (by omega)]
theorem sumN_add {φ ψ:Nat→Int} : ∀ {n:Nat},sumN (fun k=>φ k+ψ k) n=sumN φ n+sumN ψ n
 | 0=>rfl
 | n+1=>by unfold sumN; rw [sumN_add]; omega
theorem sumN_zero:∀ {n:Nat},sumN (fun _=>0) n=0
 | 0=>rfl
 | n+1=>by unfold sumN; rw [sumN_zero]; rfl
theorem sumN_one {i:Nat} {c:Int} : ∀ {n:Nat},sumN (fun k=>if k=i then c else 0) n=if i<n then c else 0
 | 0=>by simp [sumN]
 | n+1=>by
  unfold sumN
  rw [sumN_one]
  by_cases h:n=i
  ·subst h; simp
  ·rw [if_neg h]
   by_cases h2:i<n
   ·rw [if_pos h2,if_pos (by omega)]; omega
   ·rw [if_neg h2,if_neg (by omega)]; omega
theorem sumN_sw {α:Type} {φ:α→Int} {p:Pm α} {n i j:Nat} (hi:i<n) (hj:j<n):sumN (fun k=>φ (sw i j p k)) n=sumN (fun k=>φ (p k)) n:=by
 have e:sumN (fun k=>φ (sw i j p k)) n=sumN (fun k=>φ (p k)+((if k=i then φ (p j)-φ (p i) else 0)+(if k=j then (if i=j then 0 else φ (p i)-φ (p j)) else 0))) n:=by
  apply sumN_congr
  intro k hk
  unfold sw
  by_cases h1:k=i
  ·subst h1
   by_cases h2:k=j
   ·subst h2; simp
   ·simp [h2]; omega
  ·by_cases h2:k=j
   ·subst h2
    have h3:¬ i=k:=fun e=>h1 e.symm
    simp [h1,h3]; omega
   ·simp [h1,h2]
 rw [e,sumN_add,sumN_add,sumN_one,sumN_one,if_pos hi,if_pos hj]
 by_cases h:i=j
 ·subst h; simp
 ·rw [if_neg h]; omega
theorem Sw.sum {α:Type} {φ:α→Int} {p q:Pm α} {n:Nat} (h:Sw 0 n p q):sumN (fun k=>φ (q k)) n=sumN (fun k=>φ (p k)) n:=by
 induction h with
 | refl=>rfl
 | step h h1 h2 h3 h4 ih=>rw [sumN_sw h2 h4,ih]
theorem sumN_le {φ ψ:Nat→Int} : ∀ {n:Nat},(∀ k,k<n→φ k≤ψ k)→sumN φ n≤sumN ψ n
 | 0,_=>Int.le_refl _
 | n+1,h=>by
  unfold sumN
  have h1:=sumN_le (n:=n) fun k hk=>h k (by omega)
  have h2:=h n (by omega)
  omega
theorem sumN_lt {φ ψ:Nat→Int} {n:Nat} (h:sumN φ n<sumN ψ n) : ∃ k,k<n∧φ k<ψ k:=by
 refine Classical.byContradiction fun hn => ?_
 have:=sumN_le (φ:=ψ) (ψ:=φ) (n:=n) fun k hk=>by
  rcases Int.lt_or_le (φ k) (ψ k) with c | c
  ·exact absurd ⟨k,hk,c⟩ hn
  ·exact c
 omega
theorem sumN_head {φ:Nat→Int} : ∀ {n:Nat},sumN φ (n+1)=φ 0+sumN (fun k=>φ (k+1)) n
 | 0=>by simp [sumN]
 | n+1=>by
  conv=>lhs; unfold sumN
  conv=>rhs; unfold sumN
  rw [sumN_head]
  omega
theorem sumN_list {α:Type} {φ:α→Int} {d:α} : ∀ (L:List α),sumN (fun k=>φ (L.getD k d)) L.length=(L.map φ).sum
 | []=>rfl
 | x :: L=>by
  rw [List.length_cons,sumN_head,List.map_cons,List.sum_cons,← sumN_list (φ:=φ) (d:=d) L]
  simp
def cntS (u v:Nat→Int) (n:Nat) (t:Int):Int:=sumN (fun i=>if u i≤t∧t≤v i then 1 else 0) n
def tuL (a b:Int) (u v:Nat→Int):Nat→List (Int × Int)
 | 0=>[(b+1,0)]
 | i+1=>if min (v i) b<max (u i) a then tuL a b u v i else tuL a b u v i ++ [(max (u i) a,1),(min (v i) b+1,-1)]
def rowL (L:List (Int × Int)):Nat→Int × Int:=fun k=>L.getD k (0,0)
theorem tuL_len {a b:Int} {u v:Nat→Int} : ∀ n,1≤(tuL a b u v n).length∧(tuL a b u v n).length≤1+2*n
 | 0=>by simp [tuL]
 | n+1=>by
  have:=tuL_len (a:=a) (b:=b) (u:=u) (v:=v) n
  unfold tuL
  split
  ·omega
  ·simp; omega
theorem tuL_in {a b:Int} {u v:Nat→Int} (hab:a≤b):∀ n,(∀ z ∈ tuL a b u v n,a≤z.1∧z.1≤b+1 ∧ -1≤z.2∧z.2≤1)∧(b+1,0) ∈ tuL a b u v n
 | 0=>by simp [tuL]; omega
 | n+1=>by
  obtain ⟨h1,h2⟩:=tuL_in (u:=u) (v:=v) hab n
  unfold tuL
  split
  ·exact ⟨h1,h2⟩
  ·rename_i hc
   refine ⟨fun z hz => ?_,by simp [h2]⟩
   rcases List.mem_append.1 hz with hz | hz
   ·exact h1 z hz
   ·simp at hz
    rcases hz with rfl | rfl <;> simp <;> omega
theorem tuL_cnt {a b:Int} {u v:Nat→Int} {t:Int} (h1:a≤t) (h2:t≤b):∀ n,((tuL a b u v n).map fun z=>if z.1≤t then z.2 else 0).sum=cntS u v n t
 | 0=>by simp [tuL,cntS,sumN]
 | n+1=>by
  have ih:=tuL_cnt (u:=u) (v:=v) h1 h2 n
  unfold cntS at ih ⊢
  unfold tuL sumN
  split
  ·rename_i hc
   rw [ih,if_neg (by omega)]
   omega
  ·rename_i hc
   rw [List.map_append,List.sum_append,ih]
   by_cases c1:u n≤t∧t≤v n
   ·rw [if_pos c1]
    have c2:max (u n) a≤t:=by omega
    have c3:¬ min (v n) b+1≤t:=by omega
    simp only [List.map_cons,List.map_nil,List.sum_cons,List.sum_nil,c2,c3,if_true,if_false]
    omega
   ·rw [if_neg c1]
    by_cases c2:max (u n) a≤t
    ·have c3:min (v n) b+1≤t:=by omega
     simp only [List.map_cons,List.map_nil,List.sum_cons,List.sum_nil,c2,c3,if_true]
     omega
    ·have c3:¬ min (v n) b+1≤t:=by omega
     simp only [List.map_cons,List.map_nil,List.sum_cons,List.sum_nil,c2,c3,if_false]
     omega
def stS (a b:Int) (q:Nat→Int × Int):Nat→Int × Int × List (Int × Int × Int)
 | 0=>(a,0,[])
 | i+1=>if (stS a b q i).1<(q i).1∧(stS a b q i).1≤b then ((q i).1,(stS a b q i).2.1+(q i).2,(stS a b q i).2.2 ++ [((stS a b q i).1,(q i).1-1,(stS a b q i).2.1)])
  else ((stS a b q i).1,(stS a b q i).2.1+(q i).2,(stS a b q i).2.2)
def Cov (c:Int→Int):Int→Int→List (Int × Int × Int)→Prop
 | x,y,[]=>x=y
 | x,y,(l,h,n) :: r=>l=x∧l≤h∧(∀ t,l≤t→t≤h→c t=n)∧Cov c (h+1) y r
theorem Cov.app {c:Int→Int} {y h n:Int} (hh:y≤h) (hc:∀ t,y≤t→t≤h→c t=n):∀ {ys:List (Int × Int × Int)} {x:Int},Cov c x y ys→Cov c x (h+1) (ys ++ [(y,h,n)])
 | [],x,e=>by cases e; exact ⟨rfl,hh,hc,rfl⟩
 | (l,h',n') :: r,x,⟨e1,e2,e3,e4⟩=>⟨e1,e2,e3,Cov.app hh hc e4⟩
theorem sumN_cut {φ:Nat→Int} {P:Nat→Prop} [∀ k,Decidable (P k)] {i n:Nat} (h:i≤n) (h1:∀ k,k<i→P k) (h2:∀ k,i≤k→k<n→¬ P k):sumN (fun k=>if P k then φ k else 0) n=sumN φ i:=by
 induction n with
 | zero=>rw [show i=0 by omega]; rfl
 | succ n ih =>
  rcases Nat.lt_or_ge n i with c | c
  ·rw [show i=n+1 by omega]
   exact sumN_congr fun k hk=>if_pos (h1 k (by omega))
  ·conv=>lhs; unfold sumN
   rw [ih c (fun k hk1 hk2=>h2 k hk1 (by omega)),if_neg (h2 n c (by omega))]
   omega
theorem stS_inv {a b:Int} {q:Nat→Int × Int} {N:Nat} (hab:a≤b) (hs:Srt (fun z:Int × Int=>z.1) 0 N q) (hin:∀ k,k<N→a≤(q k).1∧(q k).1≤b+1):∀ i,i≤N →
  a≤(stS a b q i).1∧(stS a b q i).1≤b+1∧(∀ k,k<i→(q k).1≤(stS a b q i).1)∧(stS a b q i).2.1=sumN (fun k=>(q k).2) i ∧
  Cov (fun t=>sumN (fun k=>if (q k).1≤t then (q k).2 else 0) N) a (stS a b q i).1 (stS a b q i).2.2
 | 0,_=>⟨Int.le_refl _,by show a≤b+1; omega,fun k hk=>by omega,rfl,rfl⟩
 | i+1,h=>by
  obtain ⟨h1,h2,h3,h4,h5⟩:=stS_inv hab hs hin i (by omega)
  have hq:=hin i (by omega)
  unfold stS
  split
  ·rename_i hc
   refine ⟨by simp; omega,by simp; omega,fun k hk => ?_,?_,?_⟩
   ·exact hs k i (by omega) (by omega) (by omega)
   ·simp only [sumN]; rw [h4]
   ·have e:(q i).1=(q i).1-1+1:=by omega
    have:=Cov.app (c:=fun t=>sumN (fun k=>if (q k).1≤t then (q k).2 else 0) N) (y:=(stS a b q i).1) (h:=(q i).1-1) (n:=(stS a b q i).2.1) (by omega) (fun t t1 t2 => ?_) h5
    ·rw [← e] at this; exact this
    ·rw [h4]
     refine sumN_cut (by omega) (fun k hk => ?_) (fun k k1 k2 => ?_)
     ·have:=h3 k hk; omega
     ·have:(q i).1≤(q k).1:=hs i k (by omega) k1 (by omega)
      omega
  ·rename_i hc
   refine ⟨h1,h2,fun k hk => ?_,?_,h5⟩
   ·rcases Nat.lt_or_ge k i with c | c
    ·exact h3 k c
    ·rw [show k=i by omega]
     show (q i).1≤(stS a b q i).1
     omega
   ·simp only [sumN]; rw [h4]
theorem stS_cov {a b:Int} {q:Nat→Int × Int} {N:Nat} (hab:a≤b) (hs:Srt (fun z:Int × Int=>z.1) 0 N q) (hin:∀ k,k<N→a≤(q k).1∧(q k).1≤b+1) (hb : ∃ k,k<N∧(q k).1=b+1) :
  Cov (fun t=>sumN (fun k=>if (q k).1≤t then (q k).2 else 0) N) a (b+1) (stS a b q N).2.2:=by
 obtain ⟨h1,h2,h3,h4,h5⟩:=stS_inv hab hs hin N (Nat.le_refl _)
 obtain ⟨k,k1,k2⟩:=hb
 have:=h3 k k1
 rw [show (stS a b q N).1=b+1 by omega] at h5
 exact h5
def Lf (a b:Int) (c:Int→Int) (thr:Int) (r:Bool × Int × Int):Prop :=
 (r.1=true→a≤r.2.1∧r.2.1≤r.2.2∧r.2.2≤b∧thr≤c r.2.1∧thr≤c r.2.2)∧(r.1=false→r.2=(0,0))∧∀ t,a≤t→t≤b→thr≤c t→r.1=true∧r.2.1≤t∧t≤r.2.2
theorem Lf.uniq {a b:Int} {c:Int→Int} {thr:Int} {r s:Bool × Int × Int} (h:Lf a b c thr r) (h':Lf a b c thr s):r=s:=by
 obtain ⟨f,l,u⟩:=r
 obtain ⟨f',l',u'⟩:=s
 obtain ⟨h1,h2,h3⟩:=h
 obtain ⟨g1,g2,g3⟩:=h'
 simp only at h1 h2 h3 g1 g2 g3
 cases f <;> cases f'
 ·simp [h2,g2]
 ·obtain ⟨k1,k2,k3,k4,k5⟩:=g1 rfl
  have:=h3 l' k1 (by omega) k4
  cases this.1
 ·obtain ⟨k1,k2,k3,k4,k5⟩:=h1 rfl
  have:=g3 l k1 (by omega) k4
  cases this.1
 ·obtain ⟨k1,k2,k3,k4,k5⟩:=h1 rfl
  obtain ⟨j1,j2,j3,j4,j5⟩:=g1 rfl
  have a1:=h3 l' j1 (by omega) j4
  have a2:=g3 l k1 (by omega) k4
  have a3:=h3 u' (by omega) j3 j5
  have a4:=g3 u (by omega) k3 k5
  have e1:l=l':=by omega
  have e2:u=u':=by omega
  rw [e1,e2]
theorem Lf.congr {a b:Int} {c c':Int→Int} {thr:Int} {r:Bool × Int × Int} (h:Lf a b c thr r) (hc:∀ t,a≤t→t≤b→c t=c' t):Lf a b c' thr r:=by
 obtain ⟨h1,h2,h3⟩:=h
 refine ⟨fun e => ?_,h2,fun t t1 t2 t3=>h3 t t1 t2 (by rw [hc t t1 t2]; exact t3)⟩
 obtain ⟨k1,k2,k3,k4,k5⟩:=h1 e
 rw [hc _ k1 (by omega)] at k4
 rw [hc _ (by omega) k3] at k5
 exact ⟨k1,k2,k3,k4,k5⟩
def lfOne (thr:Int) (r:Bool × Int × Int) (z:Int × Int × Int):Bool × Int × Int:=if z.2.2<thr then r else (true,(if r.1=true then r.2.1 else z.1),z.2.1)
theorem lf_fold {a:Int} {c:Int→Int} {thr:Int} : ∀ {ys:List (Int × Int × Int)} {x y:Int} {r:Bool × Int × Int},Cov c x y ys→a≤x→Lf a (x-1) c thr r→Lf a (y-1) c thr (ys.foldl (lfOne thr) r)
 | [],x,y,r,e,hx,h=>by cases e; exact h
 | (l,u,n) :: ys,x,y,r,⟨e1,e2,e3,e4⟩,hx,h=>by
  rw [List.foldl_cons]
  refine lf_fold e4 (by omega) ?_
  subst e1
  rw [show u+1-1=u by omega]
  obtain ⟨h1,h2,h3⟩:=h
  unfold lfOne
  split
  ·rename_i hn
   simp only at hn
   refine ⟨fun e => ?_,h2,fun t t1 t2 t3 => ?_⟩
   ·have:=h1 e; exact ⟨this.1,this.2.1,by omega,this.2.2.2⟩
   ·rcases Int.lt_or_le t l with g | g
    ·exact h3 t t1 (by omega) t3
    ·rw [e3 t g t2] at t3; omega
  ·rename_i hn
   simp only at hn
   refine ⟨fun _ => ?_,fun e=>(by cases e),fun t t1 t2 t3 => ?_⟩
   ·by_cases hr:r.1=true
    ·obtain ⟨k1,k2,k3,k4,k5⟩:=h1 hr
     simp only [hr,if_true]
     exact ⟨k1,by omega,Int.le_refl _,k4,by rw [e3 u (by omega) (by omega)]; omega⟩
    ·simp only [hr]
     exact ⟨hx,e2,Int.le_refl _,by rw [if_neg (by decide)]; rw [e3 l (by omega) (by omega)]; omega,by rw [e3 u (by omega) (by omega)]; omega⟩
   ·refine ⟨rfl,?_,t2⟩
    by_cases hr:r.1=true
    ·obtain ⟨k1,k2,k3,k4,k5⟩:=h1 hr
     simp only [hr,if_true]
     rcases Int.lt_or_le t l with g | g
     ·exact (h3 t t1 (by omega) t3).2.1
     ·omega
    ·simp only [hr]
     rcases Int.lt_or_le t l with g | g
     ·exact absurd (h3 t t1 (by omega) t3).1 hr
     ·exact g
def moOne (c:Int→Int) (thr:Int) (r:Bool × Int × Int) (t:Int):Bool × Int × Int:=if c t<thr then r else (true,(if r.1=true then min r.2.1 t else t),(if r.1=true then max r.2.2 t else t))
theorem mo_fold {a b:Int} {c:Int→Int} {thr:Int} : ∀ {l:List Int} {r:Bool × Int × Int},(∀ t ∈ l,a≤t∧t≤b)→((r.1=true→a≤r.2.1∧r.2.1≤r.2.2∧r.2.2≤b∧thr≤c r.2.1∧thr≤c r.2.2)∧(r.1=false→r.2=(0,0))) →
  let s:=l.foldl (moOne c thr) r
  ((s.1=true→a≤s.2.1∧s.2.1≤s.2.2∧s.2.2≤b∧thr≤c s.2.1∧thr≤c s.2.2)∧(s.1=false→s.2=(0,0)))∧(r.1=true→s.1=true∧s.2.1≤r.2.1∧r.2.2≤s.2.2)∧∀ t ∈ l,thr≤c t→s.1=true∧s.2.1≤t∧t≤s.2.2
 | [],r,_,h=>⟨h,fun e=>⟨e,Int.le_refl _,Int.le_refl _⟩,fun t ht=>by cases ht⟩
 | t :: l,r,hl,h=>by
  have ht:=hl t (by simp)
  have key:((moOne c thr r t).1=true→a≤(moOne c thr r t).2.1∧(moOne c thr r t).2.1≤(moOne c thr r t).2.2∧(moOne c thr r t).2.2≤b∧thr≤c (moOne c thr r t).2.1∧thr≤c (moOne c thr r t).2.2)∧((moOne c thr r t).1=false→(moOne c thr r t).2=(0,0)):=by
   unfold moOne
   split
   ·exact h
   ·rename_i hc
    refine ⟨fun _ => ?_,fun e=>by cases e⟩
    by_cases hr:r.1=true
    ·obtain ⟨k1,k2,k3,k4,k5⟩:=h.1 hr
     simp only [hr,if_true]
     refine ⟨by omega,by omega,by omega,?_,?_⟩
     ·rcases Int.le_total r.2.1 t with g | g
      ·rw [Int.min_eq_left g]; exact k4
      ·rw [Int.min_eq_right g]; omega
     ·rcases Int.le_total r.2.2 t with g | g
      ·rw [Int.max_eq_right g]; omega
      ·rw [Int.max_eq_left g]; exact k5
    ·simp only [hr]
     exact ⟨ht.1,Int.le_refl _,ht.2,by simpa using hc,by simpa using hc⟩
  obtain ⟨g1,g2,g3⟩:=mo_fold (l:=l) (fun t ht=>hl t (by simp [ht])) key
  rw [List.foldl_cons]
  refine ⟨g1,fun e => ?_,fun u hu hcu => ?_⟩
  ·have:(moOne c thr r t).1=true∧(moOne c thr r t).2.1≤r.2.1∧r.2.2≤(moOne c thr r t).2.2:=by
    unfold moOne
    split
    ·exact ⟨e,Int.le_refl _,Int.le_refl _⟩
    ·simp only [e,if_true]
     exact ⟨trivial,by omega,by omega⟩
   have h9:=g2 this.1
   exact ⟨h9.1,by omega,by omega⟩
  ·rcases List.mem_cons.1 hu with e | e
   ·subst e
    have:(moOne c thr r u).1=true∧(moOne c thr r u).2.1≤u∧u≤(moOne c thr r u).2.2:=by
     unfold moOne
     rw [if_neg (by omega)]
     by_cases hr:r.1=true
     ·simp only [hr,if_true]; exact ⟨trivial,by omega,by omega⟩
     ·simp only [hr]; simp
    have h9:=g2 this.1
    exact ⟨h9.1,by omega,by omega⟩
   ·exact g3 u e hcu
theorem mo_lf {a b:Int} {c:Int→Int} {thr:Int} {l:List Int} (hl:∀ t ∈ l,a≤t∧t≤b) (ha:a ∈ l) (hb:b ∈ l) (h1:∀ t,a<t→t≤b→c (t-1)<c t→t ∈ l) (h2:∀ t,a≤t→t<b→c (t+1)<c t→t ∈ l) :
  Lf a b c thr (l.foldl (moOne c thr) (false,0,0)):=by
 obtain ⟨g1,g2,g3⟩:=mo_fold (a:=a) (b:=b) (c:=c) (thr:=thr) (l:=l) (r:=(false,0,0)) hl ⟨fun e=>(by cases e),fun _=>rfl⟩
 refine ⟨g1.1,g1.2,fun t t1 t2 t3 => ?_⟩
 -- down to a moment,and up to one
 have dn:∀ (n:Nat) (t:Int),(t-a).toNat≤n→a≤t→t≤b→thr≤c t → ∃ u ∈ l,u≤t∧thr≤c u:=by
  intro n
  induction n with
  | zero=>intro t e t1 t2 t3; exact ⟨a,ha,t1,by rw [show a=t by omega]; exact t3⟩
  | succ n ih =>
   intro t e t1 t2 t3
   rcases Int.lt_or_le a t with g | g
   ·rcases Int.lt_or_le (c (t-1)) (c t) with g' | g'
    ·exact ⟨t,h1 t g t2 g',Int.le_refl _,t3⟩
    ·obtain ⟨u,u1,u2,u3⟩:=ih (t-1) (by omega) (by omega) (by omega) (by omega)
     exact ⟨u,u1,by omega,u3⟩
   ·exact ⟨a,ha,t1,by rw [show a=t by omega]; exact t3⟩
 have up:∀ (n:Nat) (t:Int),(b-t).toNat≤n→a≤t→t≤b→thr≤c t → ∃ u ∈ l,t≤u∧thr≤c u:=by
  intro n
  induction n with
  | zero=>intro t e t1 t2 t3; exact ⟨b,hb,t2,by rw [show b=t by omega]; exact t3⟩
  | succ n ih =>
   intro t e t1 t2 t3
   rcases Int.lt_or_le t b with g | g
   ·rcases Int.lt_or_le (c (t+1)) (c t) with g' | g'
    ·exact ⟨t,h2 t t1 g g',Int.le_refl _,t3⟩
    ·obtain ⟨u,u1,u2,u3⟩:=ih (t+1) (by omega) (by omega) (by omega) (by omega)
     exact ⟨u,u1,by omega,u3⟩
   ·exact ⟨b,hb,t2,by rw [show b=t by omega]; exact t3⟩
 obtain ⟨u,u1,u2,u3⟩:=dn _ t (Nat.le_refl _) t1 t2 t3
 obtain ⟨v,v1,v2,v3⟩:=up _ t (Nat.le_refl _) t1 t2 t3
 have k1:=g3 u u1 u3
 have k2:=g3 v v1 v3
 exact ⟨k1.1,by omega,by omega⟩
end Go.Proofs.Ytoncoofmijjgeaa.M
namespace Go.Proofs.Ytoncoofmijjgeaa.M
open Go
set_option linter.unusedVariables false
set_option linter.unusedSimpArgs false
structure Pk where
 k:Int
 s:Int
 t0:Int
 t1:Int
 l0:Int
 l1:Int
 deriving DecidableEq
def Pk.vE (ns:Nat) (p:Pk):Int:=if ¬ (1≤p.k∧p.k≤3) then 2 else if ¬ (0≤p.s∧p.s≤(ns:Int)-1) then 4 else
 if p.k=2 then (if -10000≤p.l0∧p.l0≤p.l1∧p.l1≤10000 then 0 else 3) else if 0≤p.t0∧p.t0≤p.t1∧p.t1≤1000000000 then 0 else 3
def Pk.Vd (ns:Nat) (p:Pk):Prop:=(1≤p.k∧p.k≤3)∧(0≤p.s∧p.s≤(ns:Int)-1)∧(p.k=2 → -10000≤p.l0∧p.l0≤p.l1∧p.l1≤10000)∧(p.k≠2→0≤p.t0∧p.t0≤p.t1∧p.t1≤1000000000)
theorem Pk.vE_ok {ns:Nat} {p:Pk} : p.vE ns=0↔p.Vd ns:=by
 unfold Pk.vE Pk.Vd
 split
 ·rename_i h; exact ⟨fun h'=>by omega,fun h'=>absurd h'.1 h⟩
 ·rename_i h
  split
  ·rename_i h2; exact ⟨fun h'=>by omega,fun h'=>absurd h'.2.1 h2⟩
  ·rename_i h2
   have h:=Decidable.not_not.1 h
   have h2:=Decidable.not_not.1 h2
   split
   ·rename_i h3
    split
    ·rename_i h4; exact ⟨fun _=>⟨h,h2,fun _=>h4,fun g=>absurd h3 g⟩,fun _=>rfl⟩
    ·rename_i h4; exact ⟨fun h'=>by omega,fun h'=>absurd (h'.2.2.1 h3) h4⟩
   ·rename_i h3
    split
    ·rename_i h4; exact ⟨fun _=>⟨h,h2,fun g=>absurd g h3,fun _=>h4⟩,fun _=>rfl⟩
    ·rename_i h4; exact ⟨fun h'=>by omega,fun h'=>absurd (h'.2.2.2 h3) h4⟩
namespace Gd
def ckE (g:Gd) (ns:Nat) (x:Nat→Int) (n:Nat) (s:Nat→Sc) (m:Nat) (P:Nat→Pk) (f:Int):Int :=
 if g.ok then (if 64<ns then 9 else if ¬ g.all ns x then 4 else if ¬ g.srL n s=0 then g.srL n s else if 64<m then 9 else
  if ¬ fe (fun i=>(P i).vE ns) m 0=0 then fe (fun i=>(P i).vE ns) m 0 else if 0≤f∧f≤8 then 0 else 3) else 3
def Ck (g:Gd) (ns:Nat) (x:Nat→Int) (n:Nat) (s:Nat→Sc) (m:Nat) (P:Nat→Pk) (f:Int):Prop :=
 g.ok∧ns≤64∧g.all ns x∧(n≤256∧∀ i,i<n→g.Sok (s i))∧m≤64∧(∀ i,i<m→(P i).Vd ns)∧(0≤f∧f≤8)
theorem ckE_ok {g:Gd} {ns:Nat} {x:Nat→Int} {n:Nat} {s:Nat→Sc} {m:Nat} {P:Nat→Pk} {f:Int} : g.ckE ns x n s m P f=0↔g.Ck ns x n s m P f:=by
 have e1:=@srL_ok g n s
 have e2:fe (fun i=>(P i).vE ns) m 0=0↔∀ i,i<m→(P i).Vd ns:=by
  rw [fe_all]
  exact ⟨fun h i hi=>Pk.vE_ok.1 (h i hi),fun h i hi=>Pk.vE_ok.2 (h i hi)⟩
 unfold ckE Ck
 rw [← e1,← e2]
 by_cases h1:g.ok
 ·simp only [h1,if_true,true_and]
  by_cases h2:64<ns
  ·simp [h2]; omega
  ·by_cases h3:g.all ns x
   ·by_cases h4:g.srL n s=0
    ·by_cases h5:64<m
     ·simp [h2,h3,h4,h5]; omega
     ·by_cases h6:fe (fun i=>(P i).vE ns) m 0=0
      ·by_cases h7:0≤f∧f≤8
       ·simp [h2,h3,h4,h5,h6,h7]; omega
       ·simp [h2,h3,h4,h5,h6,h7]
      ·simp [h2,h3,h4,h5,h6]
    ·simp [h2,h3,h4]
   ·simp [h2,h3]
 ·simp [h1]
def alB (g:Gd) (x:Nat→Int) (s:Sc) (p:Pk):Bool:=if p.k=2 then decide (g.S0 s.q s.c (x p.s.toNat)≤p.l1∧p.l0≤g.S1 s.q s.c (x p.s.toNat)) else true
def alL (g:Gd) (x:Nat→Int) (s:Sc) (p:Pk):Int:=if p.k=1 then p.t0-g.T1 s.c (x p.s.toNat) else if p.k=2 then -1099511627776 else p.t0-g.T1 s.c (x p.s.toNat)+1
def alH (g:Gd) (x:Nat→Int) (s:Sc) (p:Pk):Int:=if p.k=1 then p.t1-g.T0 s.c (x p.s.toNat) else 1099511627776
def alw (g:Gd) (x:Nat→Int) (s:Sc) (p:Pk) (t:Int):Bool :=
 if p.k=1 then decide (t+g.T0 s.c (x p.s.toNat)≤p.t1∧p.t0≤t+g.T1 s.c (x p.s.toNat))
 else if p.k=2 then decide (g.S0 s.q s.c (x p.s.toNat)≤p.l1∧p.l0≤g.S1 s.q s.c (x p.s.toNat)) else decide (p.t0<t+g.T1 s.c (x p.s.toNat))
theorem alw_iff {g:Gd} {x:Nat→Int} {s:Sc} {p:Pk} {t:Int} (h1 : -1099511627776≤t) (h2:t≤1099511627776):g.alw x s p t=true↔g.alB x s p=true∧g.alL x s p≤t∧t≤g.alH x s p:=by
 unfold alw alB alL alH
 by_cases c1:p.k=1
 ·simp [c1]; omega
 ·by_cases c2:p.k=2
  ·simp [c2]; omega
  ·simp [c1,c2]; omega
def cnt (g:Gd) (x:Nat→Int) (s:Sc) (m:Nat) (P:Nat→Pk) (t:Int):Int:=sumN (fun i=>if g.alw x s (P i) t=true then 1 else 0) m
def alS (g:Gd) (x:Nat→Int) (s:Sc) (P:Nat→Pk):Nat→List (Int × Int)
 | 0=>[]
 | m+1=>if g.alB x s (P m)=true then alS g x s P m ++ [(g.alL x s (P m),g.alH x s (P m))] else alS g x s P m
theorem alS_len {g:Gd} {x:Nat→Int} {s:Sc} {P:Nat→Pk} : ∀ m,(g.alS x s P m).length≤m
 | 0=>Nat.le_refl _
 | m+1=>by
  have:=alS_len (g:=g) (x:=x) (s:=s) (P:=P) m
  unfold alS
  split
  ·simp; omega
  ·omega
theorem alS_sum {g:Gd} {x:Nat→Int} {s:Sc} {P:Nat→Pk} {t:Int} (h1 : -1099511627776≤t) (h2:t≤1099511627776):∀ m,((g.alS x s P m).map fun z=>if z.1≤t∧t≤z.2 then (1:Int) else 0).sum=g.cnt x s m P t
 | 0=>rfl
 | m+1=>by
  have ih:=alS_sum (g:=g) (x:=x) (s:=s) (P:=P) h1 h2 m
  have e:=@alw_iff g x s (P m) t h1 h2
  unfold cnt at ih ⊢
  unfold alS sumN
  split
  ·rename_i hb
   rw [List.map_append,List.sum_append,ih]
   simp only [hb,true_and] at e
   simp [e]
  ·rename_i hb
   rw [ih,if_neg (fun h=>hb (e.1 h).1)]
   omega
theorem alS_cnt {g:Gd} {x:Nat→Int} {s:Sc} {P:Nat→Pk} {m:Nat} {t:Int} (h1 : -1099511627776≤t) (h2:t≤1099511627776) :
  cntS (fun k=>(rowL (g.alS x s P m) k).1) (fun k=>(rowL (g.alS x s P m) k).2) (g.alS x s P m).length t=g.cnt x s m P t:=by
 rw [← alS_sum h1 h2 m]
 unfold cntS rowL
 exact sumN_list (φ:=fun z:Int × Int=>if z.1≤t∧t≤z.2 then 1 else 0) (d:=(0,0)) _
def W (z:Int):Int:=IntKind.wrap .i64 z
theorem W_id {z:Int} (h : -9223372036854775808≤z∧z≤9223372036854775807):W z=z:=Sep.wrap_R64 h
def moE (g:Gd) (x:Nat→Int) (s:Sc) (p:Pk):Nat→Int:=fun k=>if k=0 then W (p.t0-g.T1 s.c (x p.s.toNat)) else if k=1 then W (p.t1-g.T0 s.c (x p.s.toNat)) else W (W (p.t0-g.T1 s.c (x p.s.toNat))+1)
def moC (g:Gd) (x:Nat→Int) (s:Sc) (p:Pk):List Int:=[g.moE x s p 0,g.moE x s p 1,g.moE x s p 2].filter fun t=>decide (s.a≤t∧t≤s.b)
def moL (g:Gd) (x:Nat→Int) (s:Sc) (P:Nat→Pk):Nat→List Int
 | 0=>[s.a,s.b]
 | m+1=>moL g x s P m ++ g.moC x s (P m)
def lft (g:Gd) (x:Nat→Int) (s:Sc) (m:Nat) (P:Nat→Pk) (f:Int):Bool × Int × Int:=(g.moL x s P m).foldl (moOne (g.cnt x s m P) ((m:Int)-f)) (false,0,0)
theorem moL_in {g:Gd} {x:Nat→Int} {s:Sc} {P:Nat→Pk} (h:s.a≤s.b):∀ m,(∀ t ∈ g.moL x s P m,s.a≤t∧t≤s.b)∧s.a ∈ g.moL x s P m∧s.b ∈ g.moL x s P m
 | 0=>by simp [moL]; omega
 | m+1=>by
  obtain ⟨h1,h2,h3⟩:=moL_in (g:=g) (x:=x) (P:=P) h m
  unfold moL
  refine ⟨fun t ht => ?_,by simp [h2],by simp [h3]⟩
  rcases List.mem_append.1 ht with ht | ht
  ·exact h1 t ht
  ·simpa using (List.mem_filter.1 ht).2
theorem moL_mem {g:Gd} {x:Nat→Int} {s:Sc} {P:Nat→Pk} {t:Int} {i:Nat} : ∀ {m:Nat},i<m→t ∈ g.moC x s (P i)→t ∈ g.moL x s P m
 | 0,h,_=>by omega
 | m+1,h,ht=>by
  unfold moL
  rcases Nat.lt_or_ge i m with c | c
  ·exact List.mem_append.2 (.inl (moL_mem c ht))
  ·rw [show i=m by omega] at ht
   exact List.mem_append.2 (.inr ht)
theorem lft_lf {g:Gd} {ns:Nat} {x:Nat→Int} {s:Sc} {m:Nat} {P:Nat→Pk} {f:Int} (hk:g.ok) (hx:g.all ns x) (hc:g.cell s.c) (hP:∀ i,i<m→(P i).Vd ns) (h:s.a≤s.b) (h0 : -1000000000≤s.a) (h1:s.b≤1000000000):Lf s.a s.b (g.cnt x s m P) ((m:Int)-f) (g.lft x s m P f):=by
 obtain ⟨g1,g2,g3⟩:=moL_in (g:=g) (x:=x) (P:=P) h m
 have hT:∀ i,i<m→(P i).k≠2→g.moE x s (P i) 0=(P i).t0-g.T1 s.c (x (P i).s.toNat)∧g.moE x s (P i) 1=(P i).t1-g.T0 s.c (x (P i).s.toNat)∧g.moE x s (P i) 2=(P i).t0-g.T1 s.c (x (P i).s.toNat)+1:=fun i hi hk2=>by
  obtain ⟨-,v2,-,v4⟩:=hP i hi
  have v4:=v4 hk2
  have:=T_bd hk hc (hx (P i).s.toNat (by omega))
  simp only [moE]
  rw [W_id (by omega),W_id (by omega),W_id (by omega)]
  exact ⟨rfl,rfl,rfl⟩
 refine mo_lf g1 g2 g3 (fun t t1 t2 t3 => ?_) (fun t t1 t2 t3 => ?_)
 ·obtain ⟨i,i1,i2⟩:=sumN_lt t3
  have hn:¬ g.alw x s (P i) (t-1)=true:=fun e=>by
   rw [if_pos e] at i2
   by_cases c:g.alw x s (P i) t=true
   ·rw [if_pos c] at i2; omega
   ·rw [if_neg c] at i2; omega
  have hy:g.alw x s (P i) t=true:=Classical.byContradiction fun e=>by rw [if_neg hn,if_neg e] at i2; omega
  refine moL_mem i1 ?_
  unfold alw at hn hy
  unfold moC
  rw [List.mem_filter]
  refine ⟨?_,by simp; omega⟩
  have hT:=hT i i1
  by_cases c1:(P i).k=1
  ·obtain ⟨t1,t2,t3⟩:=hT (by omega)
   simp [c1] at hn hy; simp [t1,t2,t3]; omega
  ·by_cases c2:(P i).k=2
   ·simp [c2] at hn hy; omega
   ·obtain ⟨t1,t2,t3⟩:=hT c2
    simp [c1,c2] at hn hy; simp [t1,t2,t3]; omega
 ·obtain ⟨i,i1,i2⟩:=sumN_lt t3
  have hn:¬ g.alw x s (P i) (t+1)=true:=fun e=>by
   rw [if_pos e] at i2
   by_cases c:g.alw x s (P i) t=true
   ·rw [if_pos c] at i2; omega
   ·rw [if_neg c] at i2; omega
  have hy:g.alw x s (P i) t=true:=Classical.byContradiction fun e=>by rw [if_neg hn,if_neg e] at i2; omega
  refine moL_mem i1 ?_
  unfold alw at hn hy
  unfold moC
  rw [List.mem_filter]
  refine ⟨?_,by simp; omega⟩
  have hT:=hT i i1
  by_cases c1:(P i).k=1
  ·obtain ⟨t1,t2,t3⟩:=hT (by omega)
   simp [c1] at hn hy; simp [t1,t2,t3]; omega
  ·by_cases c2:(P i).k=2
   ·simp [c2] at hn hy; omega
   ·simp [c1,c2] at hn hy; omega
end Gd
theorem Cov.congr {c c':Int→Int} : ∀ {ys:List (Int × Int × Int)} {x y:Int},Cov c x y ys→(∀ t,x≤t→t<y→c t=c' t)→x≤y→Cov c' x y ys∧x≤y
 | [],x,y,e,_,h=>⟨e,h⟩
 | (l,u,n) :: r,x,y,⟨e1,e2,e3,e4⟩,hc,h=>by
  have hle:∀ {ys:List (Int × Int × Int)} {x y:Int},Cov c x y ys→x≤y:=by
   intro ys
   induction ys with
   | nil=>intro x y e; exact Int.le_of_eq e
   | cons z r ih=>intro x y e; obtain ⟨e1,e2,e3,e4⟩:=e; have:=ih e4; omega
  have h2:=hle e4
  subst e1
  exact ⟨⟨rfl,e2,fun t t1 t2=>by rw [← hc t t1 (by omega)]; exact e3 t t1 t2,(Cov.congr e4 (fun t t1 t2=>hc t (by omega) t2) h2).1⟩,h⟩
theorem turns_cov {a b:Int} {u v:Nat→Int} {na:Nat} {q:Nat→Int × Int} (hab:a≤b) (hs:Srt (fun z:Int × Int=>z.1) 0 (tuL a b u v na).length q) (hw:Sw 0 (tuL a b u v na).length (rowL (tuL a b u v na)) q) :
  Cov (cntS u v na) a (b+1) (stS a b q (tuL a b u v na).length).2.2:=by
 obtain ⟨i1,i2⟩:=tuL_in (u:=u) (v:=v) hab na
 have hin:∀ k,0≤k→k<(tuL a b u v na).length→a≤(q k).1∧(q k).1≤b+1:=hw.all (Q:=fun z=>a≤z.1∧z.1≤b+1) fun k _ hk=>by
  have:=i1 ((tuL a b u v na)[k]) (List.getElem_mem hk)
  have e:rowL (tuL a b u v na) k=(tuL a b u v na)[k]:=by simp [rowL,List.getD,hk]
  rw [e]; exact ⟨this.1,this.2.1⟩
 have hb : ∃ k,k<(tuL a b u v na).length∧(q k).1=b+1:=by
  refine Classical.byContradiction fun hn => ?_
  have e:=hw.sum (φ:=fun z=>if z.1=b+1 then 1 else 0)
  have e1:sumN (fun k=>if (q k).1=b+1 then (1:Int) else 0) (tuL a b u v na).length=0:=by
   rw [sumN_congr (ψ:=fun _=>0) fun k hk=>if_neg fun c=>hn ⟨k,hk,c⟩]
   exact sumN_zero
  rw [e1] at e
  obtain ⟨k,hk,hk2⟩:=List.mem_iff_getElem.1 i2
  have e2:rowL (tuL a b u v na) k=(b+1,0):=by simp [rowL,List.getD,hk,hk2]
  have h3:sumN (fun j=>if j=k then (1:Int) else 0) (tuL a b u v na).length≤sumN (fun j=>if (rowL (tuL a b u v na) j).1=b+1 then (1:Int) else 0) (tuL a b u v na).length:=sumN_le fun j _=>by
   by_cases c:j=k
   ·subst c; rw [e2]; simp
   ·rw [if_neg c]; split <;> omega
  rw [sumN_one,if_pos hk] at h3
  omega
 have:=stS_cov hab hs (fun k hk=>hin k (by omega) hk) hb
 refine (this.congr (fun t t1 t2 => ?_) (by omega)).1
 rw [hw.sum (φ:=fun z=>if z.1≤t then z.2 else 0),← tuL_cnt (b:=b) (u:=u) (v:=v) t1 (by omega) na]
 unfold rowL
 exact sumN_list (φ:=fun z:Int × Int=>if z.1≤t then z.2 else 0) (d:=(0,0)) _
theorem left_eq {g:Gd} {ns:Nat} {x:Nat→Int} {s:Sc} {m:Nat} {P:Nat→Pk} {f:Int} {ys:List (Int × Int × Int)} (hk:g.ok) (hx:g.all ns x) (hcl:g.cell s.c) (hP:∀ i,i<m→(P i).Vd ns) (h:s.a≤s.b) (h0 : -1000000000≤s.a) (h1:s.b≤1000000000)
  (hc:Cov (cntS (fun k=>(rowL (g.alS x s P m) k).1) (fun k=>(rowL (g.alS x s P m) k).2) (g.alS x s P m).length) s.a (s.b+1) ys) :
  ys.foldl (lfOne ((m:Int)-f)) (false,0,0)=g.lft x s m P f:=by
 have h2:=(hc.congr (c':=g.cnt x s m P) (fun t t1 t2=>Gd.alS_cnt (by omega) (by omega)) (by omega)).1
 have h3:=lf_fold (thr:=(m:Int)-f) h2 (Int.le_refl _) (r:=(false,0,0)) ⟨fun e=>(by cases e),fun _=>rfl,fun t t1 t2=>absurd t1 (by omega)⟩
 rw [show s.b+1-1=s.b by omega] at h3
 exact h3.uniq (Gd.lft_lf hk hx hcl hP h h0 h1)
end Go.Proofs.Ytoncoofmijjgeaa.M
namespace Go.Proofs.Ytoncoofmijjgeaa.M
open Go
set_option linter.unusedVariables false
set_option linter.unusedSimpArgs false
def srt2 (n:Nat) (p:Nat→Int × Int):Nat→Int × Int:=pdC (fun z:Int × Int=>z.1) oth 0 n (blen (n:Int)) true true p
theorem srt2_ok {n:Nat} {p:Nat→Int × Int} : Srt (fun z:Int × Int=>z.1) 0 n (srt2 n p)∧Sw 0 n p (srt2 n p):=pdC_ok (fun l t h=>oth_lt h)
def tlen (a b:Int) (u v:Nat→Int) (na:Nat):Nat:=(tuL a b u v na).length
def tuR (a b:Int) (u v:Nat→Int) (na:Nat):Nat→Int × Int:=rowL (tuL a b u v na)
def tuQ (a b:Int) (u v:Nat→Int) (na:Nat):Nat→Int × Int:=srt2 (tlen a b u v na) (tuR a b u v na)
def stF (a b:Int) (q:Nat→Int × Int) (i:Nat):Int:=(stS a b q i).1
def stC (a b:Int) (q:Nat→Int × Int) (i:Nat):Int:=(stS a b q i).2.1
def stY (a b:Int) (q:Nat→Int × Int) (i:Nat):List (Int × Int × Int):=(stS a b q i).2.2
def stK (a b:Int) (q:Nat→Int × Int) (i:Nat):Nat:=(stS a b q i).2.2.length
def ysR (L:List (Int × Int × Int)):Nat→Int × Int × Int:=fun k=>L.getD k (0,0,0)
theorem st_step {a b:Int} {q:Nat→Int × Int} {i:Nat} (h:stF a b q i<(q i).1∧stF a b q i≤b) :
  stF a b q (i+1)=(q i).1∧stC a b q (i+1)=stC a b q i+(q i).2∧stY a b q (i+1)=stY a b q i ++ [(stF a b q i,(q i).1-1,stC a b q i)]∧stK a b q (i+1)=stK a b q i+1:=by
 unfold stF stC stY stK at *
 conv=>enter [1,1]; unfold stS
 conv=>enter [2,1,1]; unfold stS
 conv=>enter [2,2,1,1]; unfold stS
 conv=>enter [2,2,2,1]; unfold stS
 rw [if_pos h]
 simp
theorem st_stay {a b:Int} {q:Nat→Int × Int} {i:Nat} (h:¬ (stF a b q i<(q i).1∧stF a b q i≤b)) :
  stF a b q (i+1)=stF a b q i∧stC a b q (i+1)=stC a b q i+(q i).2∧stY a b q (i+1)=stY a b q i∧stK a b q (i+1)=stK a b q i:=by
 unfold stF stC stY stK at *
 conv=>enter [1,1]; unfold stS
 conv=>enter [2,1,1]; unfold stS
 conv=>enter [2,2,1,1]; unfold stS
 conv=>enter [2,2,2,1]; unfold stS
 rw [if_neg h]
 simp
theorem stY_pre {a b:Int} {q:Nat→Int × Int} {i:Nat} : ∀ {n:Nat},i≤n → ∃ r,stY a b q n=stY a b q i ++ r
 | 0,h=>⟨[],by rw [show i=0 by omega]; simp⟩
 | n+1,h=>by
  rcases Nat.eq_or_lt_of_le h with e | e
  ·exact ⟨[],by rw [e]; simp⟩
  ·obtain ⟨r,hr⟩:=stY_pre (a:=a) (b:=b) (q:=q) (i:=i) (n:=n) (by omega)
   by_cases c:stF a b q n<(q n).1∧stF a b q n≤b
   ·exact ⟨r ++ [(stF a b q n,(q n).1-1,stC a b q n)],by rw [(st_step c).2.2.1,hr,List.append_assoc]⟩
   ·exact ⟨r,by rw [(st_stay c).2.2.1,hr]⟩
theorem stY_get {a b:Int} {q:Nat→Int × Int} {i n:Nat} (hi:i<n) (h:stF a b q i<(q i).1∧stF a b q i≤b) :
  stK a b q i<stK a b q n∧ysR (stY a b q n) (stK a b q i)=(stF a b q i,(q i).1-1,stC a b q i):=by
 obtain ⟨r,hr⟩:=stY_pre (a:=a) (b:=b) (q:=q) (i:=i+1) (n:=n) (by omega)
 rw [(st_step h).2.2.1] at hr
 have e1:stK a b q n=(stY a b q n).length:=rfl
 have e2:stK a b q i=(stY a b q i).length:=rfl
 rw [e1,e2]
 unfold ysR
 rw [hr]
 simp [List.getD]
theorem st_bd {a b:Int} {q:Nat→Int × Int} {N:Nat} (hab:a≤b) (hin:∀ k,k<N→a≤(q k).1∧(q k).1≤b+1 ∧ -1≤(q k).2∧(q k).2≤1):∀ i,i≤N→a≤stF a b q i∧stF a b q i≤b+1 ∧ -(i:Int)≤stC a b q i∧stC a b q i≤i
 | 0,_=>by unfold stF stC stS; simp; omega
 | i+1,h=>by
  have ih:=st_bd hab hin i (by omega)
  have hq:=hin i (by omega)
  by_cases c:stF a b q i<(q i).1∧stF a b q i≤b
  ·obtain ⟨h1,h2,-⟩:=st_step c
   rw [h1,h2]; omega
  ·obtain ⟨h1,h2,-⟩:=st_stay c
   rw [h1,h2]; omega
theorem tuQ_in {a b:Int} {u v:Nat→Int} {na:Nat} (hab:a≤b):∀ k,k<tlen a b u v na→a≤(tuQ a b u v na k).1∧(tuQ a b u v na k).1≤b+1 ∧ -1≤(tuQ a b u v na k).2∧(tuQ a b u v na k).2≤1:=fun k hk=>by
 refine (srt2_ok (n:=tlen a b u v na) (p:=tuR a b u v na)).2.all (Q:=fun z=>a≤z.1∧z.1≤b+1 ∧ -1≤z.2∧z.2≤1) (fun j _ hj => ?_) k (by omega) hk
 have hj':j<(tuL a b u v na).length:=hj
 have e:tuR a b u v na j=(tuL a b u v na)[j]'hj':=by
  unfold tuR rowL
  rw [List.getD_eq_getElem?_getD,List.getElem?_eq_getElem hj']; rfl
 rw [e]
 exact (tuL_in hab na).1 _ (List.getElem_mem _)
theorem tuQ_cov {a b:Int} {u v:Nat→Int} {na:Nat} (hab:a≤b):Cov (cntS u v na) a (b+1) (stY a b (tuQ a b u v na) (tlen a b u v na)) :=
 turns_cov hab (srt2_ok (n:=tlen a b u v na) (p:=tuR a b u v na)).1 (srt2_ok (n:=tlen a b u v na) (p:=tuR a b u v na)).2
theorem rowL_push {L:List (Int × Int)} {y z:Int × Int} {k:Nat} (h:k<L.length+2):rowL (L ++ [y,z]) k=if k<L.length then rowL L k else if k=L.length then y else z:=by
 unfold rowL
 rw [List.getD_eq_getElem?_getD,List.getD_eq_getElem?_getD]
 by_cases c:k<L.length
 ·rw [List.getElem?_append_left c,if_pos c]
 ·rw [List.getElem?_append_right (by omega),if_neg c]
  by_cases c2:k=L.length
  ·subst c2; simp
  ·have e:k-L.length=1:=by omega
   rw [e,if_neg c2]; rfl
theorem tu_step {a b:Int} {u v:Nat→Int} {i:Nat} (h:¬ min (v i) b<max (u i) a):tlen a b u v (i+1)=tlen a b u v i+2∧∀ k,k<tlen a b u v i+2→tuR a b u v (i+1) k=if k<tlen a b u v i then tuR a b u v i k else if k=tlen a b u v i then (max (u i) a,1) else (min (v i) b+1,-1):=by
 have e:tuL a b u v (i+1)=tuL a b u v i ++ [(max (u i) a,1),(min (v i) b+1,-1)]:=by
  conv=>lhs; unfold tuL
  rw [if_neg h]
 unfold tlen tuR
 rw [e]
 exact ⟨by simp,fun k hk=>rowL_push hk⟩
theorem tu_stay {a b:Int} {u v:Nat→Int} {i:Nat} (h:min (v i) b<max (u i) a):tlen a b u v (i+1)=tlen a b u v i∧tuR a b u v (i+1)=tuR a b u v i:=by
 have e:tuL a b u v (i+1)=tuL a b u v i:=by
  conv=>lhs; unfold tuL
  rw [if_pos h]
 unfold tlen tuR
 rw [e]
 exact ⟨rfl,rfl⟩
end Go.Proofs.Ytoncoofmijjgeaa.M
namespace Go.Proofs.Ytoncoofmijjgeaa.M
open Go
set_option linter.unusedVariables false
set_option linter.unusedSimpArgs false
namespace Gd
def one (g:Gd) (x:Nat→Int) (m:Nat) (P:Nat→Pk) (f:Int) (s:Sc):Option Sc :=
 if s.k=1 then (if (g.lft x s m P f).1=true then some ⟨s.k,s.c,s.q,(g.lft x s m P f).2.1,(g.lft x s m P f).2.2⟩ else none) else some s
def leL (g:Gd) (x:Nat→Int) (s:Nat→Sc) (m:Nat) (P:Nat→Pk) (f:Int):Nat→List Sc
 | 0=>[]
 | i+1=>match g.one x m P f (s i) with
  | some z=>leL g x s m P f i ++ [z]
  | none=>leL g x s m P f i
end Gd
def scR (L:List Sc):Nat→Sc:=fun k=>L.getD k ⟨0,0,0,0,0⟩
namespace Gd
def leN (g:Gd) (x:Nat→Int) (s:Nat→Sc) (m:Nat) (P:Nat→Pk) (f:Int) (i:Nat):Nat:=(g.leL x s m P f i).length
def leR (g:Gd) (x:Nat→Int) (s:Nat→Sc) (m:Nat) (P:Nat→Pk) (f:Int) (i:Nat):Nat→Sc:=scR (g.leL x s m P f i)
variable {g : Gd} {x : Nat → Int} {s : Nat → Sc} {m : Nat} {P : Nat → Pk} {f : Int} {i : Nat}
theorem le_stay (h:g.one x m P f (s i)=none):g.leN x s m P f (i+1)=g.leN x s m P f i∧g.leR x s m P f (i+1)=g.leR x s m P f i:=by
 have e:g.leL x s m P f (i+1)=g.leL x s m P f i:=by
  conv=>lhs; unfold leL
  rw [h]
 unfold leN leR
 rw [e]
 exact ⟨rfl,rfl⟩
theorem le_step {z:Sc} (h:g.one x m P f (s i)=some z):g.leN x s m P f (i+1)=g.leN x s m P f i+1∧∀ k,k<g.leN x s m P f i+1→g.leR x s m P f (i+1) k=if k<g.leN x s m P f i then g.leR x s m P f i k else z:=by
 have e:g.leL x s m P f (i+1)=g.leL x s m P f i ++ [z]:=by
  conv=>lhs; unfold leL
  rw [h]
 unfold leN leR
 rw [e]
 refine ⟨by simp,fun k hk => ?_⟩
 unfold scR
 rw [List.getD_eq_getElem?_getD,List.getD_eq_getElem?_getD]
 by_cases c:k<(g.leL x s m P f i).length
 ·rw [List.getElem?_append_left c,if_pos c]
 ·rw [List.getElem?_append_right (by omega),if_neg c]
  have e:k-(g.leL x s m P f i).length=0:=by omega
  rw [e]; rfl
theorem leN_le (i:Nat):g.leN x s m P f i≤i:=by
 induction i with
 | zero=>exact Nat.le_refl _
 | succ i ih =>
  cases h:g.one x m P f (s i) with
  | none=>rw [(le_stay h).1]; omega
  | some z=>rw [(le_step h).1]; omega
theorem one_quake (h:(s i).k=1):g.one x m P f (s i)=if (g.lft x (s i) m P f).1=true then some ⟨(s i).k,(s i).c,(s i).q,(g.lft x (s i) m P f).2.1,(g.lft x (s i) m P f).2.2⟩ else none:=by unfold one; rw [if_pos h]
theorem one_other (h:¬ (s i).k=1):g.one x m P f (s i)=some (s i):=by unfold one; rw [if_neg h]
end Gd
end Go.Proofs.Ytoncoofmijjgeaa.M
namespace Go.Proofs.Ytoncoofmijjgeaa.Sep
open Go
set_option linter.unusedVariables false
set_option linter.unusedSimpArgs false
theorem blen_ok:∀ l:Nat,l<201→0≤M.blen (l:Int)∧M.blen (l:Int)≤1000:=by decide +kernel
theorem s115c:SpecOK PP 115 (e115 201):=s115 201
def e101:EntB
 | [.vec 0 2 0 n,.fn 102 [] []],[.row 2 m g_1]=>some ([Row 2 m g_1,m=n,n≤200],.tup [],[.row 2 m (fun k=>[SI ((M.srt2 n (pr2 g_1)) k).1,SI ((M.srt2 n (pr2 g_1)) k).2])])
 | _,_=>none
def Rr101 (n m:Nat) (p:Nat→Int × Int):Prop:=(fun (z1 z2:Int)=>(fun (z0:Int)=>z2≤IntKind.wrap IntKind.u64 z1∧IntKind.wrap IntKind.u64 z1≤(18446744073709551615:Int)∧(∀ (k:Nat),k<m→(p k).1=(p k).1∧(p k).2=(p k).2)∧m=n∧n≤(200:Nat)∧z2≤z2∧z2≤z1∧z1≤z1∧z2≤z0∧z0≤(1000:Int)∧Int.toNat (z1-z2)<(201:Nat)∧(m≤m∧∀ (k:Nat),k<m→(M.pdC (fun z=>z.1) M.oth (Int.toNat z2) (Int.toNat z1) z0 true true p k).1=(M.srt2 n p k).1∧(M.pdC (fun z=>z.1) M.oth (Int.toNat z2) (Int.toNat z1) z0 true true p k).2=(M.srt2 n p k).2)∧True) (M.blen (IntKind.wrap IntKind.u64 z1))) (↑n:Int) (0:Int)
theorem r101 (n m:Nat) (p:Nat→Int × Int):VB true [] [(116,pureE e116),(115,specW (e115 201))] Try.f101 [0,1,4] [] [.vec 0 2 0 n,.fn 102 [] []] [.row 2 m (fun k=>[SI (p k).1,SI (p k).2])] (.tup []) [.row 2 m (fun k=>[SI ((M.srt2 n p) k).1,SI ((M.srt2 n p) k).2])]=Rr101 n m p:=by kernel_rfl
theorem br101 (n m:Nat) (p:Nat→Int × Int) (hp:(m=n)∧(n≤200)∧AllP []):Rr101 n m p:=by
 unfold Rr101
 dsimp -iota -proj -eta -zeta only
 obtain ⟨rfl,hn,-⟩:=id hp
 have e:IntKind.wrap .u64 (m:Int)=m:=by
  simp only [IntKind.wrap,IntKind.bits,IntKind.signed]
  simp
  omega
 simp only [e]
 have hb:=blen_ok m (by omega)
 simp [M.srt2]
 omega
theorem s101:SpecOK PP 101 e101:=by
 intro xs Hs ps res Hs1 h hp
 unfold e101 at h
 split at h
 ·rename_i n m g_1
  cases h
  simp only [AllP.cons] at hp
  obtain ⟨Hg_1,hp⟩:=hp
  exact Spec.blocks (enterBH (Hold.of (r101 n m (pr2 g_1)) (br101 n m (pr2 g_1) hp)) (.nil) (.cons (pureE_ok s116) (.cons (specW_ok s115c) (.nil))) (k:=101) (by kernel_rfl) (by kernel_rfl) rfl (fun _=>.nil)) (.row Hg_1 (fun _=>rfl) .nil)
 ·cases h
end Go.Proofs.Ytoncoofmijjgeaa.Sep
namespace Go.Proofs.Ytoncoofmijjgeaa.M
def delR (i:Nat) (p:Nat→Int):Nat→Int:=fun k=>if k<i then p k else p (k+1)
end Go.Proofs.Ytoncoofmijjgeaa.M
namespace Go.Proofs.Ytoncoofmijjgeaa.Sep
open Go
set_option linter.unusedVariables false
set_option linter.unusedSimpArgs false
def rho:Shelf.Ren:=⟨fun _=>75,fun t=>if t=0 then 0 else if t=3 then 3 else if t=4 then 4 else 26,fun x=>x⟩
theorem rdel:Lays2.n23 PP rho where
 mixed:=hmix
 f23:=by kernel_rfl
 t0:=by kernel_rfl
 a0:=fun w=>by kernel_rfl
 z0:=fun w=>by kernel_rfl
 v0:=fun w=>by kernel_rfl
 t3:=by kernel_rfl
 a3:=fun w=>by kernel_rfl
 z3:=fun w=>by kernel_rfl
 v3:=fun w=>by kernel_rfl
 t4:=by kernel_rfl
 a4:=fun w=>by kernel_rfl
 z4:=fun w=>by kernel_rfl
 v4:=fun w=>by kernel_rfl
 t22:=by kernel_rfl
 a22:=fun w=>by kernel_rfl
 z22:=fun w=>by kernel_rfl
 v22:=fun w=>by kernel_rfl
 i3:=by kernel_rfl
theorem del_get {zs:List Int} {a k m:Nat} (hl:zs.length=m) (ha:a<m) (hk:k<m-1):(zs.take a ++ zs.drop (a+1) ++ List.replicate (a+1-a) 0)[k]? = if k<a then zs[k]? else zs[k+1]? := by
 rw [List.append_assoc]
 by_cases c:k<a
 ·rw [if_pos c,List.getElem?_append_left (by simp; omega),List.getElem?_take,if_pos c]
 ·rw [if_neg c,List.getElem?_append_right (by simp; omega),List.getElem?_append_left (by simp; omega),List.getElem?_drop]
  congr 1
  simp
  omega
theorem Mem.aheadN {C:Ctx} {ρ:Names} {S:Nat→Prop} {H:Nat→Option Blk} {nx:Nat→Prop} {w:World} (h:Mem C ρ S H nx w) (q:Nat):Mem C ρ S H nx (Sort.ahead w q) :=
 ⟨h.size,h.shape,h.old,h.ent,h.s0,h.snew,h.sin,h.rin,h.own,h.inj,fun i k hi=>(h.blk i k hi).mono ⟨Nat.le_refl _,fun _ _ e=>e,fun _ _ _ _ _ e=>e⟩ (fun _ e=>e) (Names.le.refl _) (fun _ _=>rfl),h.free,h.keep⟩
def e75:EntB
 | [.vec 0 1 0 n,.int .i64 i,.int .i64 j],[.row 1 m g]=>some ([Row 1 m g,m=n,0≤i,i<n,j=i+1,n≤100000],.vec 0 1 0 (n-1),[.row 1 (n-1) (fun k=>[SI (M.delR i.toNat (cI g 0) k)])])
 | _,_=>none
theorem s75:SpecOK PP 75 e75:=by
 intro xs Hs ps res Hs1 h hp
 unfold e75 at h
 split at h
 ·rename_i n i j m g
  cases h
  simp only [AllP.cons] at hp
  obtain ⟨hrow,rfl,h1,h2,rfl,h3,-⟩:=hp
  obtain ⟨a,rfl⟩:=Int.eq_ofNat_of_zero_le h1
  refine ⟨Ent.of (fn:=Try.f75) (by kernel_rfl) (by kernel_rfl) (by kernel_rfl),Nat.le_refl _,fun ρ0 S w vs hm hr => ?_⟩
  obtain ⟨hl,hg⟩:=hr
  have hs:vs.size=3:=hl
  have g0:=hg 0 (.vec 0 1 0 m) vs[0] rfl (by simp [hs])
  have g1:=(hg 1 (.lit (.int .i64 (a:Int))) vs[1] rfl (by simp [hs])).lit_inv
  have g2:=(hg 2 (.lit (.int .i64 ((a:Int)+1))) vs[2] rfl (by simp [hs])).lit_inv
  rcases g0.vec_inv with ⟨z,-,e⟩ | ⟨b,T,nn,cap,hb,hsh,hc,hle,g0⟩
  ·omega
  have hv:vs = #[.slice (some ⟨b,0,none⟩) m cap,.int .i64 (a:Int),.int .i64 ((a+1:Nat):Int)]:=by
   apply Array.ext
   ·simp [hs]
   ·intro k k1 k2
    rcases k with _ | _ | _ | k
    ·simpa using g0
    ·simpa using g1
    ·simpa using g2
    ·simp [hs] at k1; omega
  obtain ⟨-,hz,hblk⟩:=hm.blk 0 (.row 1 (rowsOf m g)) rfl
  rcases hblk with ⟨e,-⟩ | ⟨b',ws,T',e,hheap,hcell⟩
  ·rw [hb] at e; cases e
  obtain rfl:b=b':=by rw [hb] at e; exact Option.some.inj e
  have hws:∀ k,k<m→ws[k]? = some (.int .i64 (cI g 0 k)):=fun k hk=>by
   have hle:=leRow_ok le0_ok _ _ (hrow k hk)
   have hrk:(rowsOf m g)[k]? = some (SV.denL (g k)):=by rw [rowsOf_get,if_pos hk]
   obtain ⟨c,hc0,hcle⟩:=hle.get (k:=0) (y:=.lit (.int .i64 (cI g 0 k))) rfl
   obtain ⟨v,hv1,hv2⟩:=hcell k 0 _ _ hrk hc0
   have:=(hcle _ _ _ _ hv2).lit_inv
   rw [this] at hv1
   simpa using hv1
  obtain ⟨zs,hzs⟩ : ∃ zs:List Int,zs=(List.range m).map (cI g 0):=⟨_,rfl⟩
  have hzl:zs.length=m:=by rw [hzs]; simp
  have hzk:∀ k,k<m→zs.toArray[k]! = cI g 0 k:=fun k hk=>by
   rw [hzs]; simp [hk]
  have hH:Sort.Holds (Value.int .i64) w b 0 zs.toArray:=fun k hk=>by
   have hk':k<m:=by simpa [hzl] using hk
   refine ⟨?_,?_⟩
   ·unfold World.cell?
    simp only [Nat.zero_add,hheap]
    rw [hws k hk',hzk k hk']
    rfl
   ·unfold World.frozen?
    simp only [hheap]
    simp
  have key:=Any.slices_Delete_int rdel b 0 cap a (a+1) zs w hH (by omega) hle.2 (by omega) (by omega)
  rw [hv]
  rw [hzl] at key
  refine key.mono ?_
  rintro e w' ⟨rfl,q,rfl⟩
  have hle1:m-(a+1-a)=m-1:=by omega
  refine ⟨_,rfl,ρ0,S,?_,?_⟩
  ·have hm1:=hm.aheadN q
   have hd:(zs.take a ++ zs.drop (a+1) ++ List.replicate (a+1-a) (0:Int)).toArray.size=m:=by simp [hzl]; omega
   obtain ⟨d,hd0⟩ : ∃ d,d=(zs.take a ++ zs.drop (a+1) ++ List.replicate (a+1-a) (0:Int)).toArray:=⟨_,rfl⟩
   rw [← hd0] at hd ⊢
   have hdk:∀ k,k<m-1→d[k]! = M.delR a (cI g 0) k:=fun k hk=>by
    have h9:=del_get (zs:=zs) (a:=a) (k:=k) hzl (by omega) hk
    have h8:∀ j,j<m→zs[j]? = some (cI g 0 j):=fun j hj=>by subst hzs; simp [hj]
    have h7:d[k]? = (if k<a then zs[k]? else zs[k+1]?):=by rw [hd0,← h9]; simp
    rw [getElem!_def,h7]
    unfold M.delR
    by_cases c:k<a
    ·rw [if_pos c,if_pos c,h8 k (by omega)]
    ·rw [if_neg c,if_neg c,h8 (k+1) (by omega)]
   have hheap1:(Sort.ahead w q).heap[b]? = some (.cells ws T' (0,0)):=hheap
   have hW:(Sort.putRow (Value.int .i64) (Sort.ahead w q) b 0 d).heap[b]? = some (.cells (Sort.putCells (Value.int .i64) 0 d ws) T' (0,0)):=by
    unfold Sort.putRow Sort.mapBlock
    simp only [Array.getElem?_modify,hheap1]
    simp [Sort.onCells]
   have st:=hm1.store (w':=Sort.putRow (Value.int .i64) (Sort.ahead w q) b 0 d) (i:=0) (b:=b) (k:=.row 1 (rowsOf m g)) (k':=.row 1 (rowsOf (m-1) (fun k=>[SI (M.delR a (cI g 0) k)]))) rfl rfl hb
    (by simp) (fun c hc=>by
     unfold Sort.putRow Sort.mapBlock
     simp only [Array.getElem?_modify]
     rw [if_neg (fun e=>hc e.symm)]) (by
     unfold World.shape?
     rw [hW,hheap1]
     simp [Sort.putCells]) ⟨by decide,(fun k cs hk=>by
      rw [rowsOf_get] at hk
      split at hk
      ·cases hk; rfl
      ·cases hk),.inr ⟨b,_,T',rfl,hW,fun k j cs c h1 h2=>by
       rw [rowsOf_get] at h1
       split at h1
       ·rename_i hk
        cases h1
        rcases j with _ | j
        ·cases h2
         refine ⟨_,?_,.lit _⟩
         unfold Sort.putCells
         have hkw:k<ws.size:=by
          have:=hws k (by omega)
          exact (Array.getElem?_eq_some_iff.1 this).1
         rw [Array.getElem?_mapIdx,Nat.mul_one,Nat.add_zero]
         rw [Array.getElem?_eq_getElem hkw]
         simp only [Option.map_some,Nat.zero_le,true_and,Nat.zero_add,Nat.sub_zero]
         rw [if_pos (by omega),hdk k hk]
        ·cases h2
       ·cases h1⟩⟩ ⟨rfl,rfl⟩
   have e1:updH ([Blk.row 1 (rowsOf m g)][·]?) 0 (.row 1 (rowsOf (m-1) (fun k=>[SI (M.delR a (cI g 0) k)])))=(([SBlk.row 1 (m-1) (fun k=>[SI (M.delR (a:Int).toNat (cI g 0) k)])].map SBlk.den)[·]?):=by
    funext k
    rcases k with _ | k
    ·rfl
    ·rfl
   have st2:=st
   rw [show (([SBlk.row 1 m g].map SBlk.den)[·]?)=([Blk.row 1 (rowsOf m g)][·]?) from rfl,e1] at st2
   exact st2
  ·rw [hle1]
   have:Rel S (Sort.putRow (Value.int .i64) (Sort.ahead w q) b 0 (zs.take a ++ zs.drop (a+1) ++ List.replicate (a+1-a) (0:Int)).toArray) ρ0 (.vec 0 1 0 (m-1)) (.slice (some ⟨b,0*1,none⟩) (m-1) cap):=by
    refine .vec (T:=T) (n:=nn) hb ?_ hc ⟨by omega,hle.2⟩
    rw [← hsh]
    unfold World.shape? Sort.putRow Sort.mapBlock
    simp only [Array.getElem?_modify]
    have hheap1:(Sort.ahead w q).heap[b]? = some (.cells ws T' (0,0)):=hheap
    rw [hheap1,hheap]
    simp [Sort.onCells,Sort.putCells]
   exact this
 ·cases h
end Go.Proofs.Ytoncoofmijjgeaa.Sep
namespace Go.Proofs.Ytoncoofmijjgeaa.Kd
open Go
set_option linter.unusedVariables false
set_option linter.unusedSimpArgs false
set_option maxHeartbeats 4000000
set_option maxRecDepth 1000000
theorem run_ck {P:Program} {w:World} {kt:TypeId} {n:Int} {b:Bool} (hk:P.underlying kt=some (.int .i64)):(Instr.checkKey b 10000 kt (.int .i64 n)).run P w = .ok () w:=by
 show (Instr.checkKey b (9999+1) kt (.int .i64 n)).run P w = .ok () w
 unfold Instr.checkKey
 simp [run_underlying hk]
def setM (w:World) (r:Nat) (o:Obj):World := { w with heap:=w.heap.setIfInBounds r o }
theorem run_upd {P:Program} {w:World} {t kt et:TypeId} {r clock:Nat} {es es':Array MapEntry} {n:Int} {val:Value} (h:P.underlying t=some (.map kt et)) (hk:P.underlying kt=some (.int .i64)) (hb:w.heap[r]? = some (.map es clock))
  (hn:Instr.findNow (.int .i64) (.int .i64 n) es.toList 0=some none) (he:es.push { key:=.int .i64 n,val,born:=clock } = es'):(Instr.mapUpdate t (.map (some r)) (.int .i64 n) val).run P w = .ok () (setM w r (.map es' (clock+1))):=by
 subst he
 have hf:(Instr.findKey kt (.int .i64 n) es.toList).run P w = .ok none w:=by
  unfold Instr.findKey
  simp [run_underlying hk,hn]
 unfold Instr.mapUpdate
 simp [run_underlying h,MapKept.run_getObj_map hb,run_ck hk,hf,MapKept.run_setObj_map _ hb,setM]
theorem run_look {P:Program} {w:World} {t kt et:TypeId} {r clock:Nat} {es:Array MapEntry} {n:Int} {o:Option (Nat × Value)} {z:Value} (h:P.underlying t=some (.map kt et)) (hk:P.underlying kt=some (.int .i64)) (hb:w.heap[r]? = some (.map es clock))
  (hn:Instr.findNow (.int .i64) (.int .i64 n) es.toList 0=some o) (hz:(zeroValue et).run P w = .ok z w):(Instr.lookup t (.map (some r)) (.int .i64 n) true).run P w = .ok (.tuple #[match o with | some (_,v)=>v | none=>z,.bool o.isSome]) w:=by
 have hf:(Instr.findKey kt (.int .i64 n) es.toList).run P w = .ok o w:=by
  unfold Instr.findKey
  simp [run_underlying hk,hn]
 unfold Instr.lookup
 cases o <;> simp [run_underlying h,MapKept.run_getObj_map hb,run_ck hk,hf,hz]
def kE:Array MapEntry := #[{ key:=.int .i64 1,val:=.agg #[.func (.func 109) #[] #[],.func (.func 110) #[] #[]],born:=0 },{ key:=.int .i64 2,val:=.agg #[.func (.func 111) #[] #[],.func (.func 112) #[] #[]],born:=1 },{ key:=.int .i64 3,val:=.agg #[.func (.func 109) #[] #[],.func (.func 114) #[] #[]],born:=2 }]
def Ext (w w':World):Prop:=w.heap.size≤w'.heap.size∧(∀ b,b<w.heap.size→w'.heap[b]? = w.heap[b]?)∧w'.os=w.os∧w'.output=w.output
theorem up0 {w:World} {c m:Obj} : ((w.alloc c).alloc m).heap[w.heap.size+1]? = some m:=by
 show ((w.heap.push c).push m)[w.heap.size+1]? = some m
 rw [Array.getElem?_push,if_pos (by rw [Array.size_push])]
theorem up1 {w:World} {r:Nat} {o o':Obj} (h:w.heap[r]? = some o'):(setM w r o).heap[r]? = some o:=by
 have hr:=(Array.getElem?_eq_some_iff.1 h).1
 simp [setM,hr]
theorem Ext.trans {a b c:World} (h:Ext a b) (h':Ext b c):Ext a c :=
 ⟨Nat.le_trans h.1 h'.1,fun n hn=>(h'.2.1 n (Nat.lt_of_lt_of_le hn h.1)).trans (h.2.1 n hn),h'.2.2.1.trans h.2.2.1,h'.2.2.2.trans h.2.2.2⟩
theorem Ext.refl (w:World):Ext w w:=⟨Nat.le_refl _,fun _ _=>rfl,rfl,rfl⟩
theorem Ext.alloc {w W:World} (h:Ext w W) {o:Obj} : Ext w (W.alloc o):=by
 refine h.trans ⟨?_,fun n hn => ?_,rfl,rfl⟩
 ·show W.heap.size≤(W.heap.push o).size
  rw [Array.size_push]; omega
 ·show (W.heap.push o)[n]? = W.heap[n]?
  rw [Array.getElem?_push,if_neg (by omega)]
theorem Ext.setM {w W:World} (h:Ext w W) {r:Nat} {o:Obj} (hr:w.heap.size≤r):Ext w (setM W r o):=by
 refine ⟨?_,fun n hn => ?_,h.2.2.1,h.2.2.2⟩
 ·show w.heap.size≤(W.heap.setIfInBounds r o).size
  rw [Array.size_setIfInBounds]; exact h.1
 ·show (W.heap.setIfInBounds r o)[n]? = w.heap[n]?
  rw [Array.getElem?_setIfInBounds,if_neg (by omega)]
  exact h.2.1 n hn
theorem Ext.cell {w W:World} (h:Ext w W) {a:Addr} {v:Value} (hr:w.heap.size≤a.block):Ext w (W.setCell a v):=by
 refine ⟨?_,fun n hn => ?_,?_,?_⟩
 ·simpa using h.1
 ·have:=h.2.1 n hn
  rw [← this]
  unfold World.setCell
  simp only [Array.getElem?_modify]
  rw [if_neg (by omega)]
 ·exact h.2.2.1
 ·exact h.2.2.2
theorem kW {w W:World} (h:W=Kd.setM (Kd.setM (Kd.setM ((w.alloc (Obj.cells #[Value.nilFunc,Value.nilFunc] 156)).alloc (Obj.map #[] 0)) (w.heap.size+1) (Obj.map (kE.extract 0 1) 1)) (w.heap.size+1) (Obj.map (kE.extract 0 2) 2)) (w.heap.size+1) (Obj.map kE 3)) :
  W.heap[w.heap.size]? = some (.cells #[Value.nilFunc,Value.nilFunc] 156)∧w.heap.size<W.heap.size∧Ext w W:=by
 have key:∀ (V:World) (o:Obj),(Kd.setM V (w.heap.size+1) o).heap[w.heap.size]? = V.heap[w.heap.size]? ∧ (Kd.setM V (w.heap.size+1) o).heap.size=V.heap.size:=fun V o=>by
  unfold Kd.setM
  simp only [Array.getElem?_setIfInBounds,Array.size_setIfInBounds]
  rw [if_neg (by omega)]
  exact ⟨rfl,trivial⟩
 subst h
 refine ⟨?_,?_,(((((Ext.refl w).alloc).alloc).setM (by omega)).setM (by omega)).setM (by omega)⟩
 ·rw [(key _ _).1,(key _ _).1,(key _ _).1]
  show ((w.heap.push _).push _)[w.heap.size]? = _
  rw [Array.getElem?_push,if_neg (by rw [Array.size_push]; omega),Array.getElem?_push,if_pos rfl]
 ·rw [(key _ _).2,(key _ _).2,(key _ _).2]
  show w.heap.size<((w.heap.push _).push _).size
  rw [Array.size_push,Array.size_push]; omega
def Bx (p:Prop):Prop:=p
theorem kZ {W:World} {b:Nat} {u0 u1:Value} {T:TypeId} (h:W.heap[b]? = some (.cells #[u0,u1] T)):Bx (∀ f1 f2 o,(((W.setCell ⟨b,0,none⟩ f1).setCell ⟨b,1,none⟩ f2).alloc o).cell? ⟨b,0,none⟩=some f1∧(((W.setCell ⟨b,0,none⟩ f1).setCell ⟨b,1,none⟩ f2).alloc o).cell? ⟨b,1,none⟩=some f2):=by
 intro f1 f2 o
 have hb:b<W.heap.size:=(Array.getElem?_eq_some_iff.1 h).1
 have e:(((W.setCell ⟨b,0,none⟩ f1).setCell ⟨b,1,none⟩ f2).alloc o).heap[b]? = some (.cells #[f1,f2] T):=by
  show (((W.setCell ⟨b,0,none⟩ f1).setCell ⟨b,1,none⟩ f2).heap.push o)[b]? = _
  rw [Array.getElem?_push,if_neg (by simp [World.setCell]; omega)]
  unfold World.setCell
  simp only [Array.getElem?_modify,if_true,h]
  rfl
 unfold World.cell?
 simp only [e]
 exact ⟨rfl,rfl⟩
theorem kNone {n:Int} (hn:¬ (1≤n∧n≤3)):Instr.findNow (.int .i64) (.int .i64 n) kE.toList 0=some none:=by
 have h1:(n == 1)=false:=by simp; omega
 have h2:(n == 2)=false:=by simp; omega
 have h3:(n == 3)=false:=by simp; omega
 simp only [kE,Instr.findNow,Instr.sameNow,if_true,h1,h2,h3]
theorem kinds1 (w:World):Calls Try.prog 99 #[.int .i64 1] w fun e w'=>e = .returned (.tuple #[.agg #[.func (.func 109) #[] #[],.func (.func 110) #[] #[]],.bool true])∧Ext w w':=by
 go_enter Try.func99,Try.ntmps99
 go_wp2
 rename_i q k1 h1 k2 h2
 rw [RowKit.run_makeMap]
 refine h2 _ _ ?_
 clear h2 k2
 go_wp2
 rename_i k2 h2
 rw [run_upd (kt:=3) (et:=156) (clock:=0) (es := #[]) (by kernel_rfl) (by kernel_rfl) up0 rfl (es':=kE.extract 0 1) rfl]
 refine h2 _ _ ?_
 clear h2 k2
 go_wp2
 rename_i k2 h2
 rw [run_upd (kt:=3) (et:=156) (clock:=1) (es:=kE.extract 0 1) (by kernel_rfl) (by kernel_rfl) (up1 up0) rfl (es':=kE.extract 0 2) rfl]
 refine h2 _ _ ?_
 clear h2 k2
 go_wp2
 rename_i k2 h2
 rw [run_upd (kt:=3) (et:=156) (clock:=2) (es:=kE.extract 0 2) (by kernel_rfl) (by kernel_rfl) (up1 (up1 up0)) rfl (es':=kE) rfl]
 refine h2 _ _ ?_
 clear h2 k2
 go_wp2
 rename_i k2 h2
 rw [run_look (kt:=3) (et:=156) (clock:=3) (es:=kE) (o:=some (0,.agg #[.func (.func 109) #[] #[],.func (.func 110) #[] #[]])) (z:=.agg #[.nilFunc,.nilFunc]) (by kernel_rfl) (by kernel_rfl) (up1 (up1 (up1 up0))) rfl (by kernel_rfl)]
 obtain ⟨W,hW⟩ : ∃ W,W=setM (setM (setM ((w.alloc (Obj.cells #[Value.nilFunc,Value.nilFunc] 156)).alloc (Obj.map #[] 0)) (w.heap.size+1) (Obj.map (kE.extract 0 1) 1)) (w.heap.size+1) (Obj.map (kE.extract 0 2) 2)) (w.heap.size+1) (Obj.map kE 3):=⟨_,rfl⟩
 obtain ⟨hx,hx5,hx6⟩:=kW hW
 have hx1:W.cell? ⟨w.heap.size,0,none⟩=some .nilFunc:=by unfold World.cell?; simp only [hx]; rfl
 have hx2:W.cell? ⟨w.heap.size,1,none⟩=some .nilFunc:=by unfold World.cell?; simp only [hx]; rfl
 have hx3:W.frozen? ⟨w.heap.size,0,none⟩=false:=by unfold World.frozen?; simp only [hx]; rfl
 have hx4:W.frozen? ⟨w.heap.size,1,none⟩=false:=by unfold World.frozen?; simp only [hx]; rfl
 rw [← hW]
 have kz:=kZ hx
 clear hW hx
 refine h2 _ _ ?_
 clear h2 k2
 go_wp2
 have kz2:=kz (.func (.func 109) #[] #[]) (.func (.func 110) #[] #[]) (Obj.cells #[.func (.func 109) #[] #[],.func (.func 110) #[] #[]] 156)
 refine bodyPost_ret (by simp [results,Try.results99,go_sem,kz2.1,kz2.2]; try rfl) rfl ?_
 exact ⟨rfl,((hx6.cell (Nat.le_refl _)).cell (Nat.le_refl _)).alloc⟩
theorem kinds2 (w:World):Calls Try.prog 99 #[.int .i64 2] w fun e w'=>e = .returned (.tuple #[.agg #[.func (.func 111) #[] #[],.func (.func 112) #[] #[]],.bool true])∧Ext w w':=by
 go_enter Try.func99,Try.ntmps99
 go_wp2
 rename_i q k1 h1 k2 h2
 rw [RowKit.run_makeMap]
 refine h2 _ _ ?_
 clear h2 k2
 go_wp2
 rename_i k2 h2
 rw [run_upd (kt:=3) (et:=156) (clock:=0) (es := #[]) (by kernel_rfl) (by kernel_rfl) up0 rfl (es':=kE.extract 0 1) rfl]
 refine h2 _ _ ?_
 clear h2 k2
 go_wp2
 rename_i k2 h2
 rw [run_upd (kt:=3) (et:=156) (clock:=1) (es:=kE.extract 0 1) (by kernel_rfl) (by kernel_rfl) (up1 up0) rfl (es':=kE.extract 0 2) rfl]
 refine h2 _ _ ?_
 clear h2 k2
 go_wp2
 rename_i k2 h2
 rw [run_upd (kt:=3) (et:=156) (clock:=2) (es:=kE.extract 0 2) (by kernel_rfl) (by kernel_rfl) (up1 (up1 up0)) rfl (es':=kE) rfl]
 refine h2 _ _ ?_
 clear h2 k2
 go_wp2
 rename_i k2 h2
 rw [run_look (kt:=3) (et:=156) (clock:=3) (es:=kE) (o:=some (1,.agg #[.func (.func 111) #[] #[],.func (.func 112) #[] #[]])) (z:=.agg #[.nilFunc,.nilFunc]) (by kernel_rfl) (by kernel_rfl) (up1 (up1 (up1 up0))) rfl (by kernel_rfl)]
 obtain ⟨W,hW⟩ : ∃ W,W=setM (setM (setM ((w.alloc (Obj.cells #[Value.nilFunc,Value.nilFunc] 156)).alloc (Obj.map #[] 0)) (w.heap.size+1) (Obj.map (kE.extract 0 1) 1)) (w.heap.size+1) (Obj.map (kE.extract 0 2) 2)) (w.heap.size+1) (Obj.map kE 3):=⟨_,rfl⟩
 obtain ⟨hx,hx5,hx6⟩:=kW hW
 have hx1:W.cell? ⟨w.heap.size,0,none⟩=some .nilFunc:=by unfold World.cell?; simp only [hx]; rfl
 have hx2:W.cell? ⟨w.heap.size,1,none⟩=some .nilFunc:=by unfold World.cell?; simp only [hx]; rfl
 have hx3:W.frozen? ⟨w.heap.size,0,none⟩=false:=by unfold World.frozen?; simp only [hx]; rfl
 have hx4:W.frozen? ⟨w.heap.size,1,none⟩=false:=by unfold World.frozen?; simp only [hx]; rfl
 rw [← hW]
 have kz:=kZ hx
 clear hW hx
 refine h2 _ _ ?_
 clear h2 k2
 go_wp2
 have kz2:=kz (.func (.func 111) #[] #[]) (.func (.func 112) #[] #[]) (Obj.cells #[.func (.func 111) #[] #[],.func (.func 112) #[] #[]] 156)
 refine bodyPost_ret (by simp [results,Try.results99,go_sem,kz2.1,kz2.2]; try rfl) rfl ?_
 exact ⟨rfl,((hx6.cell (Nat.le_refl _)).cell (Nat.le_refl _)).alloc⟩
theorem kinds3 (w:World):Calls Try.prog 99 #[.int .i64 3] w fun e w'=>e = .returned (.tuple #[.agg #[.func (.func 109) #[] #[],.func (.func 114) #[] #[]],.bool true])∧Ext w w':=by
 go_enter Try.func99,Try.ntmps99
 go_wp2
 rename_i q k1 h1 k2 h2
 rw [RowKit.run_makeMap]
 refine h2 _ _ ?_
 clear h2 k2
 go_wp2
 rename_i k2 h2
 rw [run_upd (kt:=3) (et:=156) (clock:=0) (es := #[]) (by kernel_rfl) (by kernel_rfl) up0 rfl (es':=kE.extract 0 1) rfl]
 refine h2 _ _ ?_
 clear h2 k2
 go_wp2
 rename_i k2 h2
 rw [run_upd (kt:=3) (et:=156) (clock:=1) (es:=kE.extract 0 1) (by kernel_rfl) (by kernel_rfl) (up1 up0) rfl (es':=kE.extract 0 2) rfl]
 refine h2 _ _ ?_
 clear h2 k2
 go_wp2
 rename_i k2 h2
 rw [run_upd (kt:=3) (et:=156) (clock:=2) (es:=kE.extract 0 2) (by kernel_rfl) (by kernel_rfl) (up1 (up1 up0)) rfl (es':=kE) rfl]
 refine h2 _ _ ?_
 clear h2 k2
 go_wp2
 rename_i k2 h2
 rw [run_look (kt:=3) (et:=156) (clock:=3) (es:=kE) (o:=some (2,.agg #[.func (.func 109) #[] #[],.func (.func 114) #[] #[]])) (z:=.agg #[.nilFunc,.nilFunc]) (by kernel_rfl) (by kernel_rfl) (up1 (up1 (up1 up0))) rfl (by kernel_rfl)]
 obtain ⟨W,hW⟩ : ∃ W,W=setM (setM (setM ((w.alloc (Obj.cells #[Value.nilFunc,Value.nilFunc] 156)).alloc (Obj.map #[] 0)) (w.heap.size+1) (Obj.map (kE.extract 0 1) 1)) (w.heap.size+1) (Obj.map (kE.extract 0 2) 2)) (w.heap.size+1) (Obj.map kE 3):=⟨_,rfl⟩
 obtain ⟨hx,hx5,hx6⟩:=kW hW
 have hx1:W.cell? ⟨w.heap.size,0,none⟩=some .nilFunc:=by unfold World.cell?; simp only [hx]; rfl
 have hx2:W.cell? ⟨w.heap.size,1,none⟩=some .nilFunc:=by unfold World.cell?; simp only [hx]; rfl
 have hx3:W.frozen? ⟨w.heap.size,0,none⟩=false:=by unfold World.frozen?; simp only [hx]; rfl
 have hx4:W.frozen? ⟨w.heap.size,1,none⟩=false:=by unfold World.frozen?; simp only [hx]; rfl
 rw [← hW]
 have kz:=kZ hx
 clear hW hx
 refine h2 _ _ ?_
 clear h2 k2
 go_wp2
 have kz2:=kz (.func (.func 109) #[] #[]) (.func (.func 114) #[] #[]) (Obj.cells #[.func (.func 109) #[] #[],.func (.func 114) #[] #[]] 156)
 refine bodyPost_ret (by simp [results,Try.results99,go_sem,kz2.1,kz2.2]; try rfl) rfl ?_
 exact ⟨rfl,((hx6.cell (Nat.le_refl _)).cell (Nat.le_refl _)).alloc⟩
theorem kinds0 (w:World) (n:Int) (hn:¬ (1≤n∧n≤3)):Calls Try.prog 99 #[.int .i64 n] w fun e w'=>e = .returned (.tuple #[.agg #[.nilFunc,.nilFunc],.bool false])∧Ext w w':=by
 go_enter Try.func99,Try.ntmps99
 go_wp2
 rename_i q k1 h1 k2 h2
 rw [RowKit.run_makeMap]
 refine h2 _ _ ?_
 clear h2 k2
 go_wp2
 rename_i k2 h2
 rw [run_upd (kt:=3) (et:=156) (clock:=0) (es := #[]) (by kernel_rfl) (by kernel_rfl) up0 rfl (es':=kE.extract 0 1) rfl]
 refine h2 _ _ ?_
 clear h2 k2
 go_wp2
 rename_i k2 h2
 rw [run_upd (kt:=3) (et:=156) (clock:=1) (es:=kE.extract 0 1) (by kernel_rfl) (by kernel_rfl) (up1 up0) rfl (es':=kE.extract 0 2) rfl]
 refine h2 _ _ ?_
 clear h2 k2
 go_wp2
 rename_i k2 h2
 rw [run_upd (kt:=3) (et:=156) (clock:=2) (es:=kE.extract 0 2) (by kernel_rfl) (by kernel_rfl) (up1 (up1 up0)) rfl (es':=kE) rfl]
 refine h2 _ _ ?_
 clear h2 k2
 go_wp2
 rename_i k2 h2
 rw [run_look (kt:=3) (et:=156) (clock:=3) (es:=kE) (o:=none) (z:=.agg #[.nilFunc,.nilFunc]) (by kernel_rfl) (by kernel_rfl) (up1 (up1 (up1 up0))) (kNone hn) (by kernel_rfl)]
 obtain ⟨W,hW⟩ : ∃ W,W=setM (setM (setM ((w.alloc (Obj.cells #[Value.nilFunc,Value.nilFunc] 156)).alloc (Obj.map #[] 0)) (w.heap.size+1) (Obj.map (kE.extract 0 1) 1)) (w.heap.size+1) (Obj.map (kE.extract 0 2) 2)) (w.heap.size+1) (Obj.map kE 3):=⟨_,rfl⟩
 obtain ⟨hx,hx5,hx6⟩:=kW hW
 have hx1:W.cell? ⟨w.heap.size,0,none⟩=some .nilFunc:=by unfold World.cell?; simp only [hx]; rfl
 have hx2:W.cell? ⟨w.heap.size,1,none⟩=some .nilFunc:=by unfold World.cell?; simp only [hx]; rfl
 have hx3:W.frozen? ⟨w.heap.size,0,none⟩=false:=by unfold World.frozen?; simp only [hx]; rfl
 have hx4:W.frozen? ⟨w.heap.size,1,none⟩=false:=by unfold World.frozen?; simp only [hx]; rfl
 rw [← hW]
 have kz:=kZ hx
 clear hW hx
 refine h2 _ _ ?_
 clear h2 k2
 go_wp2
 have kz2:=kz (.nilFunc) (.nilFunc) (Obj.cells #[.nilFunc,.nilFunc] 156)
 refine bodyPost_ret (by simp [results,Try.results99,go_sem,kz2.1,kz2.2]; try rfl) rfl ?_
 exact ⟨rfl,((hx6.cell (Nat.le_refl _)).cell (Nat.le_refl _)).alloc⟩
end Go.Proofs.Ytoncoofmijjgeaa.Kd
namespace Go.Proofs.Ytoncoofmijjgeaa.Sep
open Go
theorem Mem.ext {C:Ctx} {ρ:Names} {S:Nat→Prop} {H:Nat→Option Blk} {nx:Nat→Prop} {w w':World} (h:Mem C ρ S H nx w) (he:Kd.Ext w w'):Mem C ρ S H nx w':=by
 obtain ⟨h1,h2,h3,h4⟩:=he
 refine h.step (fun _=>False) h1 (shp_all ⟨h3,h4⟩ fun b t e => ?_) (fun b hb _=>h2 b hb) (fun _ e=>e.elim) (Names.le.refl _) (fun _ _ e=>.inl ⟨_,e⟩) (fun _ e=>e) (fun _ e=>.inl e) ?_ ?_ ?_ ?_
 ·have hb:b<w.heap.size:=by
   refine Classical.byContradiction fun hn => ?_
   unfold World.shape? at e
   rw [Array.getElem?_eq_none (by omega)] at e
   cases e
  exact shape?_keep (shape?_of_heap (h2 b hb)) e
 ·intro i k e; exact .inl ⟨e,fun b hb=>⟨hb,fun e=>e⟩⟩
 ·exact h.own
 ·exact h.inj
 ·exact h.free
theorem fn_rel {S:Nat→Prop} {w:World} {ρ:Names} {f:FuncId} : Rel S w ρ (.fn (.func f) [] []) (.func (.func f) #[] #[]):=.fn rfl (fun k c v h _=>by simp at h) rfl (fun k c v h _=>by simp at h)
theorem kd_rel {S:Nat→Prop} {w:World} {ρ:Names} {x y:AV} {u v:Value} {b:Bool} (hx:Rel S w ρ x u) (hy:Rel S w ρ y v):Rel S w ρ (.tup [.agg [x,y],.lit (.bool b)]) (.tuple #[.agg #[u,v],.bool b]):=by
 refine .tup rfl fun k c z h1 h2 => ?_
 rcases k with _ | _ | k
 ·simp at h1 h2; subst h1; subst h2
  refine .agg rfl fun k c z h1 h2 => ?_
  rcases k with _ | _ | k
  ·simp at h1 h2; subst h1; subst h2; exact hx
  ·simp at h1 h2; subst h1; subst h2; exact hy
  ·simp at h1
 ·simp at h1 h2; subst h1; subst h2; exact .lit _
 ·simp at h1
theorem kd_pure {k:Int} {r:SV} {v:Value} (h:∀ w,Calls PP 99 #[.int .i64 k] w fun e w'=>e = .returned v∧Kd.Ext w w') (hr:∀ S w ρ,Rel S w ρ r.den v):Pure PP 99 (SV.denL [.int .i64 k]) r.den:=by
 refine ⟨Ent.of (fn:=Try.f99) (by kernel_rfl) (by kernel_rfl) (by kernel_rfl),Nat.le_refl _,fun ρ0 S w vs hm hg => ?_⟩
 have hv:vs = #[.int .i64 k]:=by
  obtain ⟨hl,hg⟩:=hg
  have hs:vs.size=1:=hl
  have h:=(hg 0 (.lit (.int .i64 k)) vs[0] (by simp [SV.denL,SV.den]) (by simp [hs])).lit_inv
  apply Array.ext
  ·simp [hs]
  ·intro i h1 h2
   have:i=0:=by omega
   subst this
   simpa using h
 subst hv
 refine (h w).mono ?_
 rintro e w' ⟨rfl,he⟩
 exact ⟨_,rfl,ρ0,S,hm.ext he,hr _ _ _⟩
def e99a:List SV→Option (List Prop × SV)
 | [.int .i64 k]=>some ([k=1],.tup [.agg [.fn 109 [] [],.fn 110 [] []],.bool true])
 | _=>none
theorem s99a:PureOK PP 99 e99a:=fun xs ps res hx hp=>by
 unfold e99a at hx
 split at hx
 ·rename_i k
  cases hx
  have h0:=hp (k=1) (by simp)
  subst h0
  exact kd_pure (fun w=>Kd.kinds1 w) fun S w ρ=>kd_rel fn_rel fn_rel
 ·cases hx
def e99b:List SV→Option (List Prop × SV)
 | [.int .i64 k]=>some ([k=2],.tup [.agg [.fn 111 [] [],.fn 112 [] []],.bool true])
 | _=>none
theorem s99b:PureOK PP 99 e99b:=fun xs ps res hx hp=>by
 unfold e99b at hx
 split at hx
 ·rename_i k
  cases hx
  have h0:=hp (k=2) (by simp)
  subst h0
  exact kd_pure (fun w=>Kd.kinds2 w) fun S w ρ=>kd_rel fn_rel fn_rel
 ·cases hx
def e99c:List SV→Option (List Prop × SV)
 | [.int .i64 k]=>some ([k=3],.tup [.agg [.fn 109 [] [],.fn 114 [] []],.bool true])
 | _=>none
theorem s99c:PureOK PP 99 e99c:=fun xs ps res hx hp=>by
 unfold e99c at hx
 split at hx
 ·rename_i k
  cases hx
  have h0:=hp (k=3) (by simp)
  subst h0
  exact kd_pure (fun w=>Kd.kinds3 w) fun S w ρ=>kd_rel fn_rel fn_rel
 ·cases hx
def e99d:List SV→Option (List Prop × SV)
 | [.int .i64 k]=>some ([¬ (1≤k∧k≤3)],.tup [.agg [.lit .nilFunc,.lit .nilFunc],.bool false])
 | _=>none
theorem s99d:PureOK PP 99 e99d:=fun xs ps res hx hp=>by
 unfold e99d at hx
 split at hx
 ·rename_i k
  cases hx
  have h0:=hp (¬ (1≤k∧k≤3)) (by simp)
  exact kd_pure (fun w=>Kd.kinds0 w k h0) fun S w ρ=>kd_rel (.lit _) (.lit _)
 ·cases hx
end Go.Proofs.Ytoncoofmijjgeaa.Sep
namespace Go.Proofs.Ytoncoofmijjgeaa.Sep
open Go
set_option linter.unusedVariables false
set_option linter.unusedSimpArgs false
theorem okB {g:M.Gd} : g.ok↔((1≤g.w∧g.w≤24)∧(1≤g.h∧g.h≤24)∧(1≤g.s∧g.s≤10000)∧(100≤g.v0∧g.v0≤g.v1∧g.v1≤20000)∧(0≤g.d0∧g.d0≤g.d1∧g.d1≤700000)∧(0≤g.r∧g.r≤1000)):=Iff.rfl
def e67:List SV→Option (List Prop × SV)
 | [.int .i64 n,.int .i64 lo,.int .i64 hi]=>some ([],.bool (decide (lo≤n∧n≤hi)))
 | _=>none
def Rr67 (n lo hi:Int):Prop:=(decide (lo≤n)=true→decide (lo≤n)=true)∧(decide (lo≤n)=true→decide (lo≤n)=true)∧(decide (lo≤n)=true→decide (lo≤n)=true)∧(bif decide (lo≤n) then decide (n≤hi) else false)=decide (lo≤n∧n≤hi)
theorem r67 (n lo hi:Int):V true [] [] Try.f67 [0,1,2,6] [] [SI n,SI lo,SI hi] (.bool (decide (lo≤n∧n≤hi)))=Rr67 n lo hi:=by kernel_rfl
theorem br67 (n lo hi:Int)  : Rr67 n lo hi:=by
 unfold Rr67
 by_cases h:lo≤n <;> simp [h]
theorem s67:PureOK PP 67 e67:=by
 intro xs ps res h hp
 unfold e67 at h
 split at h
 ·rename_i n lo hi
  cases h
  clear hp
  exact enterH (Hold.of (r67 n lo hi) (br67 n lo hi )) (.nil) (.nil) (k:=67) (by kernel_rfl) (by kernel_rfl) (fun _=>.nil)
 ·cases h
def e71:List SV→Option (List Prop × SV)
 | [.agg [.int .i64 a,.int .i64 b],.int .i64 lo,.int .i64 hi]=>some ([],.bool (decide (lo≤a∧a≤b∧b≤hi)))
 | _=>none
def Rr71 (a b lo hi:Int):Prop:=(fun (z0:Bool) (z1:Prop)=>(fun (z2:Prop)=>z1∧z1∧z1∧z1∧z1∧z2∧z2∧z2∧z2∧(bif z0 then decide (b≤hi) else false)=decide (lo≤a∧a≤b∧b≤hi)) (z0=true→z0=true)) (bif decide (lo≤a) then decide (a≤b) else false) (decide (lo≤a)=true→decide (lo≤a)=true)
theorem r71 (a b lo hi:Int):V true [] [] Try.f71 [0,1,2,3,6] [] [.agg [SI a,SI b],SI lo,SI hi] (.bool (decide (lo≤a∧a≤b∧b≤hi)))=Rr71 a b lo hi:=by kernel_rfl
theorem br71 (a b lo hi:Int)  : Rr71 a b lo hi:=by
 unfold Rr71
 dsimp -iota -proj -eta -zeta only
 by_cases h:lo≤a <;> by_cases h':a≤b <;> simp [h,h']
theorem s71:PureOK PP 71 e71:=by
 intro xs ps res h hp
 unfold e71 at h
 split at h
 ·rename_i a b lo hi
  cases h
  clear hp
  exact enterH (Hold.of (r71 a b lo hi) (br71 a b lo hi )) (.nil) (.nil) (k:=71) (by kernel_rfl) (by kernel_rfl) (fun _=>.nil)
 ·cases h
def e28:List SV→Option (List Prop × SV)
 | [.agg [.int .i64 w,.int .i64 h,.int .i64 s,.int .i64 v0,.int .i64 v1,.int .i64 d0,.int .i64 d1,.int .i64 r]]=>some ([],SI (M.Gd.er (M.Gd.mk w h s v0 v1 d0 d1 r)))
 | _=>none
def Rr28 (w h s v0 v1 d0 d1 r:Int):Prop:=(fun (z1:Bool) (z10:Int) (z4:Prop)=>(fun (z3:Bool) (z6:Prop)=>(fun (z0:Bool) (z7:Prop)=>(fun (z2:Bool) (z8:Prop)=>(fun (z5:Bool) (z9:Prop)=>(z4→z4)∧(z4→z4)∧(z4→z4)∧((!decide ((1:Int)≤w∧w≤(24:Int)))=false→z4)∧(z6→z6)∧(z6→z6)∧(z6→z6)∧(z1=false→z6)∧(z7→z7)∧(z7→z7)∧(z7→z7)∧(z3=false→z7)∧(z8→z8)∧(z8→z8)∧(z8→z8)∧(z0=false→z8)∧(z9→z9)∧(z9→z9)∧(z9→z9)∧(z2=false→z9)∧(z5=true→(3:Int)=z10)∧(z5=false→(0:Int)=z10)) (bif z2 then true else !decide ((0:Int)≤r∧r≤(1000:Int))) ((!z2)=true)) (bif z0 then true else !decide ((0:Int)≤d0∧d0≤d1∧d1≤(700000:Int))) ((!z0)=true)) (bif z3 then true else !decide ((100:Int)≤v0∧v0≤v1∧v1≤(20000:Int))) ((!z3)=true)) (bif z1 then true else !decide ((1:Int)≤s∧s≤(10000:Int))) ((!z1)=true)) (bif !decide ((1:Int)≤w∧w≤(24:Int)) then true else !decide ((1:Int)≤h∧h≤(24:Int))) (M.Gd.er (M.Gd.mk w h s v0 v1 d0 d1 r)) ((!!decide ((1:Int)≤w∧w≤(24:Int)))=true)
theorem r28 (w h s v0 v1 d0 d1 r:Int):V true [] [(67,pureE e67),(71,pureE e71)] Try.f28 [0,1,2,36] [] [.agg [SI w,SI h,SI s,SI v0,SI v1,SI d0,SI d1,SI r]] (SI (M.Gd.er (M.Gd.mk w h s v0 v1 d0 d1 r)))=Rr28 w h s v0 v1 d0 d1 r:=by kernel_rfl
theorem br28 (w h s v0 v1 d0 d1 r:Int)  : Rr28 w h s v0 v1 d0 d1 r:=by
 unfold Rr28
 dsimp -iota -proj -eta -zeta only
 simp only [M.Gd.er,okB]
 by_cases c1:1≤w∧w≤24 <;> by_cases c2:1≤h∧h≤24 <;> by_cases c3:1≤s∧s≤10000 <;> by_cases c4:100≤v0∧v0≤v1∧v1≤20000 <;> by_cases c5:0≤d0∧d0≤d1∧d1≤700000 <;> by_cases c6:0≤r∧r≤1000 <;> simp [c1,c2,c3,c4,c5,c6]
theorem s28:PureOK PP 28 e28:=by
 intro xs ps res h hp
 unfold e28 at h
 split at h
 ·rename_i w h s v0 v1 d0 d1 r
  cases h
  clear hp
  exact enterH (Hold.of (r28 w h s v0 v1 d0 d1 r) (br28 w h s v0 v1 d0 d1 r )) (.nil) (.cons (pureE_ok s67) (.cons (pureE_ok s71) (.nil))) (k:=28) (by kernel_rfl) (by kernel_rfl) (fun _=>.nil)
 ·cases h
def e29:List SV→Option (List Prop × SV)
 | [.agg [.int .i64 w,.int .i64 h,.int .i64 s,.int .i64 v0,.int .i64 v1,.int .i64 d0,.int .i64 d1,.int .i64 r]]=>some ([],SI (M.Gd.er (M.Gd.mk w h s v0 v1 d0 d1 r)))
 | _=>none
theorem whR {g:M.Gd} (h:g.ok):1≤g.w*g.h∧g.w*g.h≤576:=by
 obtain ⟨⟨w1,w2⟩,⟨h1,h2⟩,-⟩:=h
 have a1:1*1≤g.w*g.h:=Int.mul_le_mul w1 h1 (by omega) (by omega)
 have a2:g.w*g.h≤24*24:=Int.mul_le_mul w2 h2 (by omega) (by omega)
 omega
def e83:List SV→Option (List Prop × SV)
 | [.agg [.int .i64 w,.int .i64 h,.int .i64 s,.int .i64 v0,.int .i64 v1,.int .i64 d0,.int .i64 d1,.int .i64 r],.int .i64 c]=>some ([M.Gd.ok (M.Gd.mk w h s v0 v1 d0 d1 r)],.bool (decide (M.Gd.cell (M.Gd.mk w h s v0 v1 d0 d1 r) c)))
 | _=>none
def Rr83 (w h s v0 v1 d0 d1 r:Int) (c:Int):Prop:=R64 (w*h)∧R64 (w*h-(1:Int))∧decide ((0:Int)≤c∧c≤w*h-(1:Int))=decide (M.Gd.cell (M.Gd.mk w h s v0 v1 d0 d1 r) c)
theorem r83 (w h s v0 v1 d0 d1 r:Int) (c:Int):V true [] [(67,pureE e67)] Try.f83 [0,1,2,4] [] [.agg [SI w,SI h,SI s,SI v0,SI v1,SI d0,SI d1,SI r],SI c] (.bool (decide (M.Gd.cell (M.Gd.mk w h s v0 v1 d0 d1 r) c)))=Rr83 w h s v0 v1 d0 d1 r c:=by kernel_rfl
theorem br83 (w h s v0 v1 d0 d1 r:Int) (c:Int) (hp:(M.Gd.ok (M.Gd.mk w h s v0 v1 d0 d1 r))∧AllP []):Rr83 w h s v0 v1 d0 d1 r c:=by
 unfold Rr83
 obtain ⟨hk,-⟩:=id hp
 have:=whR hk
 simp only at this
 refine ⟨by unfold R64; omega,by unfold R64; omega,?_⟩
 simp only [M.Gd.cell]
theorem s83:PureOK PP 83 e83:=by
 intro xs ps res h hp
 unfold e83 at h
 split at h
 ·rename_i w h s v0 v1 d0 d1 r c
  cases h
  simp only [AllP.cons] at hp
  exact enterH (Hold.of (r83 w h s v0 v1 d0 d1 r c) (br83 w h s v0 v1 d0 d1 r c hp)) (.nil) (.cons (pureE_ok s67) (.nil)) (k:=83) (by kernel_rfl) (by kernel_rfl) (fun _=>.nil)
 ·cases h
def e105:List SV→Option (List Prop × SV)
 | [.int .i64 x]=>some ([R64 (x*x)],SI (x*x))
 | _=>none
def Rr105 (x:Int):Prop:=R64 (x*x)∧x*x=x*x
theorem r105 (x:Int):V true [] [] Try.f105 [0,2] [] [SI x] (SI (x*x))=Rr105 x:=by kernel_rfl
theorem br105 (x:Int) (hp:(R64 (x*x))∧AllP []):Rr105 x:=by
 unfold Rr105
 simp [hp]
theorem s105:PureOK PP 105 e105:=by
 intro xs ps res h hp
 unfold e105 at h
 split at h
 ·rename_i x
  cases h
  simp only [AllP.cons] at hp
  exact enterH (Hold.of (r105 x) (br105 x hp)) (.nil) (.nil) (k:=105) (by kernel_rfl) (by kernel_rfl) (fun _=>.nil)
 ·cases h
def e119:List SV→Option (List Prop × SV)
 | [.int .i64 x,.sptr 1 1 F_1 0 0]=>match F_1 0 with
  | [.int .i64 n]=>some ([0≤x,x≤1048576],.bool (decide (n≤x*x)))
  | _=>none
 | _=>none
def Rr119 (x n:Int):Prop:=R64 (x*x)∧(0:Nat)<(1:Nat)∧decide (n≤x*x)=decide (n≤x*x)
theorem r119 (x n:Int):V true [] [(105,pureE e105)] Try.f119 [0,1,3] [] [SI x,.sptr 1 1 (fun _=>[SI n]) 0 0] (.bool (decide (n≤x*x)))=Rr119 x n:=by kernel_rfl
theorem br119 (x n:Int) (hp:(0≤x)∧(x≤1048576)∧AllP []):Rr119 x n:=by
 unfold Rr119
 obtain ⟨h1,h2,-⟩:=id hp
 have a1:x*x≤1048576*1048576:=Int.mul_le_mul h2 h2 h1 (by omega)
 have a2:0≤x*x:=Int.mul_nonneg h1 h1
 simp
 unfold R64
 omega
theorem s119:PureOK PP 119 e119:=by
 intro xs ps res h hp
 unfold e119 at h
 split at h
 ·rename_i x F_1
  split at h
  ·rename_i n EF_1
   cases h
   simp only [AllP.cons] at hp
   exact Spec.args (enterH (Hold.of (r119 x n) (br119 x n hp)) (.nil) (.cons (pureE_ok s105) (.nil)) (k:=119) (by kernel_rfl) (by kernel_rfl) (fun _=>.nil)) (.cons (.refl _) (.cons (.ref EF_1 (.refl _)) .nil))
  ·cases h
 ·cases h
def lp118 (n:Int):LoopS where
 ι:=Nat × Nat
 β:=Unit
 pre:=fun s=>s.1≤s.2∧s.2≤1048576∧(∀ x:Nat,x<s.1→¬ n≤(x:Int)*x)∧(s.2<1048576→n≤(s.2:Int)*s.2)
 μ:=fun s=>s.2-s.1
 next:=fun s A _ _=>((asI (getS A 5)).toNat,(asI (getS A 6)).toNat)
 out _:=()
 early _:=false
 SA:=fun s=>[(1,.fn 119 [] [.sptr 1 1 (fun _=>[SI n]) 0 0]),(5,SI s.1),(6,SI s.2)]
 SH _:=[]
 n0:=0
 NA _:=[(5,SI (M.root n))]
 NH _:=[]
 n1:=0
 RA _:=[]
 RH _:=[]
def Rq118 (n:Int) (i j:Nat):Prop:=(fun (z3 z4:Int) (z6 z8:Nat) (z7:Prop)=>(fun (z2:Bool) (z1:Int) (z0 z5:Nat)=>(fun (z9:Nat)=>(decide (z4<z3)=true→R64 (z4+z3)∧(0:Int)≤(1:Int)∧R64 (Int.fdiv (IntKind.wrap IntKind.u64 (z4+z3)) ((2:Int) ^ min z6 (IntKind.bits IntKind.u64)))∧(0:Int)≤Int.fdiv (IntKind.wrap IntKind.u64 (z4+z3)) ((2:Int) ^ min z6 (IntKind.bits IntKind.u64))∧Int.fdiv (IntKind.wrap IntKind.u64 (z4+z3)) ((2:Int) ^ min z6 (IntKind.bits IntKind.u64))≤(1048576:Int)∧(z2=true→R64 z1∧(z9≤z5∧z5≤z8∧(∀ (x:Nat),x<z9→¬ n≤(↑x:Int)*(↑x:Int))∧(z5<z8→n≤(↑z5:Int)*(↑z5:Int)))∧z5-z9<j-i∧()=()∧(1:Nat)=(1:Nat)∧(0:Nat)=(0:Nat)∧z7∧z1=(↑z9:Int)∧z3=(↑z5:Int)∧True)∧(z2=false→(Int.toNat z4≤z0∧z0≤z8∧(∀ (x:Nat),x<Int.toNat z4→¬ n≤(↑x:Int)*(↑x:Int))∧(z0<z8→n≤(↑z0:Int)*(↑z0:Int)))∧z0-Int.toNat z4<j-i∧()=()∧(1:Nat)=(1:Nat)∧(0:Nat)=(0:Nat)∧z7∧z4=(↑(Int.toNat z4):Int)∧Int.fdiv (IntKind.wrap IntKind.u64 (z4+z3)) ((2:Int) ^ min z6 (IntKind.bits IntKind.u64))=(↑z0:Int)∧True))∧(decide (z4<z3)=false→false=false∧z4=(↑(M.root n):Int)∧True)) (Int.toNat z1)) (!decide (n≤Int.fdiv (IntKind.wrap IntKind.u64 (z4+z3)) ((2:Int) ^ min z6 (IntKind.bits IntKind.u64))*Int.fdiv (IntKind.wrap IntKind.u64 (z4+z3)) ((2:Int) ^ min z6 (IntKind.bits IntKind.u64)))) (Int.fdiv (IntKind.wrap IntKind.u64 (z4+z3)) ((2:Int) ^ min z6 (IntKind.bits IntKind.u64))+(1:Int)) (Int.toNat (Int.fdiv (IntKind.wrap IntKind.u64 (z4+z3)) ((2:Int) ^ min z6 (IntKind.bits IntKind.u64)))) (Int.toNat z3)) (↑j:Int) (↑i:Int) (Int.toNat (1:Int)) (1048576:Nat) (∀ (q:Nat),q<(1:Nat)→n=n)
theorem q118 (n:Int) (i j:Nat):VL true [] [(119,pureE e119)] YS.none Try.f118 0 [0,1,4,5,6,7,11,21] [] 0 (lp118 n) ((i,j))=Rq118 n i j:=by kernel_rfl
theorem peq118 (n:Int) (i j:Nat):(lp118 n).pre ((i,j))=(i≤j∧j≤(1048576:Nat)∧(∀ (x:Nat),x<i→¬n≤(↑x:Int)*(↑x:Int))∧(j<(1048576:Nat)→n≤(↑j:Int)*(↑j:Int))):=by kernel_rfl
theorem bq118 (n:Int) (i j:Nat) (hp:i≤j∧j≤(1048576:Nat)∧(∀ (x:Nat),x<i→¬n≤(↑x:Int)*(↑x:Int))∧(j<(1048576:Nat)→n≤(↑j:Int)*(↑j:Int))):Rq118 n i j:=by
 unfold Rq118
 dsimp -iota -proj -eta -zeta only
 obtain ⟨h1,h2,h3,h4⟩:=id hp
 have e1:Int.fdiv (IntKind.wrap .u64 ((i:Int)+j)) (2 ^ min (Int.toNat 1) (IntKind.bits .u64))=(((i+j)/2:Nat):Int):=by
  have e:IntKind.wrap .u64 ((i:Int)+j)=((i+j:Nat):Int):=by
   simp only [IntKind.wrap,IntKind.bits,IntKind.signed]
   simp
   omega
  rw [e]
  have e2:Int.fdiv ((i+j:Nat):Int) (2 ^ min (Int.toNat 1) (IntKind.bits .u64))=(((i+j)/2:Nat):Int):=by
   rw [Int.fdiv_eq_ediv_of_nonneg _ (by decide)]
   have:((2:Int) ^ min (Int.toNat 1) (IntKind.bits .u64))=2:=by decide
   rw [this]
   omega
  exact e2
 have r3:R64 (((i+j)/2:Nat):Int):=by unfold R64; omega
 have r1:R64 ((i:Int)+j):=by unfold R64; omega
 have r2:R64 ((((i+j)/2:Nat):Int)+1):=by unfold R64; omega
 simp only [e1,r1,r2,r3]
 obtain ⟨q,hq⟩ : ∃ q,q=(i+j)/2:=⟨_,rfl⟩
 simp only [← hq]
 by_cases hl:i<j
 ·by_cases hc:n≤(q:Int)*q
  ·simp [hl,hc]
   repeat' apply And.intro
   all_goals first | omega | exact fun x hx=>by have:=h3 x hx; omega
  ·have t:((q:Int)+1).toNat=q+1:=by omega
   simp [hl,hc,t]
   have g3:∀ x:Nat,x<q+1→(x:Int)*x<n:=fun x hx=>by
    have:(x:Int)*x≤(q:Int)*q:=M.sq_le (by omega) (by omega)
    omega
   repeat' apply And.intro
   all_goals first | omega | exact g3 | exact h4
 ·have e:i=j:=by omega
  subst e
  have e2:M.root n=i:=(M.root_lst n).uniq ⟨h2,fun x hx=>by have:=h3 x hx; simpa using this,fun h=>by have:=h4 h; simpa using this⟩
  simp [e2]
theorem t118 (n:Int) {F:Fence} (hF:FOK F) (Y:YEnv PP YS.none):∀ Q A H nx,loopT false Try.f118.ntmps 0 (lp118 n) (fun _ _ _=>((0:Nat),(1048576:Nat))) Q A H nx→WPS Y F Try.f118.ntmps 0 (.block 0 (blkAt 0 Try.f118)) Q A H nx :=
 loopW (E:=[]) (.nil) (O:=[(119,pureE e119)]) (.cons (pureE_ok s119) (.nil)) (ck:=true) (L:=[0,1,4,5,6,7,11,21]) (f:=Try.f118) (m:=0) (id:=0) (l:=(lp118 n)) (LI:=fun i=>[]) Y hF (by kernel_rfl) (fun _=>.nil) (by
  rintro ⟨i,j⟩ hp
  exact Hold.of (q118 n i j) (bq118 n i j ((peq118 n i j).mp hp)))
def e118:List SV→Option (List Prop × SV)
 | [.int .i64 n0,.fn 119 [] [.sptr 1 1 F_1 0 0]]=>match F_1 0 with
  | [.int .i64 n]=>some ([n0=1048576],SI (M.root n))
  | _=>none
 | _=>none
def Rr118 (n0 n:Int):Prop:=(fun (z0:Nat)=>((0:Nat)≤z0∧z0≤z0∧(∀ (x:Nat),x<(0:Nat)→¬ n≤(↑x:Int)*(↑x:Int))∧(z0<z0→n≤(↑z0:Int)*(↑z0:Int)))∧((1:Nat)=(1:Nat)∧(0:Nat)=(0:Nat)∧(∀ (q:Nat),q<(1:Nat)→n=n)∧(0:Int)=(↑(0:Nat):Int)∧n0=(↑z0:Int)∧True)∧(false=false→(↑(M.root n):Int)=(↑(M.root n):Int))∧(false=true→False)) (1048576:Nat)
theorem r118 (n0 n:Int):V true [] [] Try.f118 [0,1,4,5,6,7,11,21] [(0,loopT false Try.f118.ntmps 0 (lp118 n) (fun _ _ _=>((0:Nat),(1048576:Nat))))] [SI n0,.fn 119 [] [.sptr 1 1 (fun _=>[SI n]) 0 0]] (SI (M.root n))=Rr118 n0 n:=by kernel_rfl
theorem br118 (n0 n:Int) (hp:(n0=1048576)∧AllP []):Rr118 n0 n:=by
 unfold Rr118
 dsimp -iota -proj -eta -zeta only
 obtain ⟨rfl,-⟩:=id hp
 simp
theorem s118:PureOK PP 118 e118:=by
 intro xs ps res h hp
 unfold e118 at h
 split at h
 ·rename_i n0 F_1
  split at h
  ·rename_i n EF_1
   cases h
   simp only [AllP.cons] at hp
   exact Spec.args (enterH (Hold.of (r118 n0 n) (br118 n0 n hp)) (.nil) (.nil) (k:=118) (by kernel_rfl) (by kernel_rfl) (fun Y=>.cons (by kernel_rfl) (t118 n FOK.wide Y) (.nil))) (.cons (.refl _) (.cons (.fn (.refl _) (.cons (.ref EF_1 (.refl _)) .nil)) .nil))
  ·cases h
 ·cases h
def e106:List SV→Option (List Prop × SV)
 | [.int .i64 n]=>some ([],SI (M.root n))
 | _=>none
def Rr106 (n:Int):Prop:=(1048576:Int)=(1048576:Int)∧(↑(M.root n):Int)=(↑(M.root n):Int)
theorem r106 (n:Int):V true [] [(118,pureE e118)] Try.f106 [0,1,2] [] [SI n] (SI (M.root n))=Rr106 n:=by kernel_rfl
theorem br106 (n:Int)  : Rr106 n:=by
 unfold Rr106
 simp
theorem s106:PureOK PP 106 e106:=by
 intro xs ps res h hp
 unfold e106 at h
 split at h
 ·rename_i n
  cases h
  clear hp
  exact enterH (Hold.of (r106 n) (br106 n )) (.nil) (.cons (pureE_ok s118) (.nil)) (k:=106) (by kernel_rfl) (by kernel_rfl) (fun _=>.nil)
 ·cases h
end Go.Proofs.Ytoncoofmijjgeaa.Sep
namespace Go.Proofs.Ytoncoofmijjgeaa.M
def lgq (d:Int):Nat:=Nat.log2 (d/1000+1).toNat
theorem fall_lgq (d:Int):fall d=30*(lgq d:Int):=rfl
end Go.Proofs.Ytoncoofmijjgeaa.M
namespace Go.Proofs.Ytoncoofmijjgeaa.Sep
open Go
set_option linter.unusedVariables false
set_option linter.unusedSimpArgs false
def lp95 (d:Int):LoopS where
 ι:=Nat
 β:=Unit
 pre:=fun k=>0≤d∧d≤1048576∧2 ^ k≤(d/1000+1).toNat
 μ:=fun k=>20-k
 next:=fun k _ _ _=>k+1
 out _:=()
 early _:=false
 SA:=fun k=>[(0,SI d),(3,SI k)]
 SH _:=[]
 n0:=0
 NA _:=[(3,SI (M.lgq d))]
 NH _:=[]
 n1:=0
 RA _:=[]
 RH _:=[]
def Rq95 (d:Int) (k:Nat):Prop:=(fun (z0 z2:Int)=>(fun (z1:Bool)=>R64 z0∧(0:Int)≤z0∧z0≤(64:Int)∧R64 ((1:Int)*(2:Int) ^ Int.toNat z0)∧z2≠(0:Int)∧R64 (Int.tdiv d z2)∧R64 (Int.tdiv d z2+(1:Int))∧(z1=true→R64 z0∧((0:Int)≤d∧d≤(1048576:Int)∧(2:Nat) ^ (k+(1:Nat))≤Int.toNat (d/z2+(1:Int)))∧(20:Nat)-(k+(1:Nat))<(20:Nat)-k∧()=()∧d=d∧z0=(↑(k+(1:Nat)):Int)∧True)∧(z1=false→false=false∧(↑k:Int)=(↑(M.lgq d):Int)∧True)) (decide ((1:Int)*(2:Int) ^ Int.toNat z0≤Int.tdiv d z2+(1:Int)))) ((↑k:Int)+(1:Int)) (1000:Int)
theorem q95 (d:Int) (k:Nat):VL true [] [] YS.none Try.f95 0 [0,2,3,10] [] 0 (lp95 d) (k)=Rq95 d k:=by kernel_rfl
theorem peq95 (d:Int) (k:Nat):(lp95 d).pre (k)=((0:Int)≤d∧d≤(1048576:Int)∧(2:Nat) ^ k≤Int.toNat (d/(1000:Int)+(1:Int))):=by kernel_rfl
theorem bq95 (d:Int) (k:Nat) (hp:(0:Int)≤d∧d≤(1048576:Int)∧(2:Nat) ^ k≤Int.toNat (d/(1000:Int)+(1:Int))):Rq95 d k:=by
 unfold Rq95
 dsimp -iota -proj -eta -zeta only
 obtain ⟨h1,h2,h3⟩:=id hp
 have hq:(d/1000+1).toNat≤1049:=by omega
 have hk:k≤10:=by
  rcases Nat.lt_or_ge 10 k with c | c
  ·have:2 ^ 11≤2 ^ k:=Nat.pow_le_pow_right (by omega) c
   omega
  ·exact c
 have e1:Int.tdiv d 1000=d/1000:=Int.tdiv_eq_ediv_of_nonneg h1
 have e2:(1:Int)*2 ^ ((k:Int)+1).toNat=((2 ^ (k+1):Nat):Int):=by
  rw [show ((k:Int)+1).toNat=k+1 by omega,Int.natCast_pow,Int.one_mul]; rfl
 have hl:(d/1000+1).toNat<2 ^ (k+1)→M.lgq d=k:=fun h=>by
  have a1:=(Nat.log2_lt (n:=(d/1000+1).toNat) (k:=k+1) (by omega)).2 h
  have a2:=(Nat.le_log2 (n:=(d/1000+1).toNat) (k:=k) (by omega)).2 h3
  unfold M.lgq
  omega
 have hp2:2 ^ (k+1)≤2 ^ 11:=Nat.pow_le_pow_right (by omega) (by omega)
 have hp2':(2:Nat) ^ 11=2048:=rfl
 simp only [e1,e2]
 generalize 2 ^ (k+1)=P at *
 unfold R64
 by_cases hc:P≤(d/1000+1).toNat
 ·have hc':(P:Int)≤d/1000+1:=by omega
  simp [hc',hc,h1,h2]
  omega
 ·have hc':¬ (P:Int)≤d/1000+1:=by omega
  have:=hl (by omega)
  simp [hc',hc,this]
  omega
theorem t95 (d:Int) {F:Fence} (hF:FOK F) (Y:YEnv PP YS.none):∀ Q A H nx,loopT false Try.f95.ntmps 0 (lp95 d) (fun _ _ _=>(0:Nat)) Q A H nx→WPS Y F Try.f95.ntmps 0 (.block 0 (blkAt 0 Try.f95)) Q A H nx :=
 loopW (E:=[]) (.nil) (O:=[]) (.nil) (ck:=true) (L:=[0,2,3,10]) (f:=Try.f95) (m:=0) (id:=0) (l:=(lp95 d)) (LI:=fun i=>[]) Y hF (by kernel_rfl) (fun _=>.nil) (by
  rintro k hp
  exact Hold.of (q95 d k) (bq95 d k ((peq95 d k).mp hp)))
def e95:List SV→Option (List Prop × SV)
 | [.int .i64 d]=>some ([0≤d,d≤1048576],SI (M.fall d))
 | _=>none
def Rr95 (d:Int):Prop:=((0:Int)≤d∧d≤(1048576:Int)∧(2:Nat) ^ (0:Nat)≤Int.toNat (d/(1000:Int)+(1:Int)))∧(d=d∧(0:Int)=(↑(0:Nat):Int)∧True)∧(false=false→R64 ((30:Int)*(↑(M.lgq d):Int))∧(30:Int)*(↑(M.lgq d):Int)=M.fall d)∧(false=true→False)
theorem r95 (d:Int):V true [] [] Try.f95 [0,2,3,10] [(0,loopT false Try.f95.ntmps 0 (lp95 d) (fun _ _ _=>(0:Nat)))] [SI d] (SI (M.fall d))=Rr95 d:=by kernel_rfl
theorem br95 (d:Int) (hp:(0≤d)∧(d≤1048576)∧AllP []):Rr95 d:=by
 unfold Rr95
 obtain ⟨h1,h2,-⟩:=id hp
 have:=M.fall_bd h1 h2
 rw [M.fall_lgq] at this
 simp [M.fall_lgq]
 unfold R64
 omega
theorem s95:PureOK PP 95 e95:=by
 intro xs ps res h hp
 unfold e95 at h
 split at h
 ·rename_i d
  cases h
  simp only [AllP.cons] at hp
  exact enterH (Hold.of (r95 d) (br95 d hp)) (.nil) (.nil) (k:=95) (by kernel_rfl) (by kernel_rfl) (fun Y=>.cons (by kernel_rfl) (t95 d FOK.wide Y) (.nil))
 ·cases h
def e93:List SV→Option (List Prop × SV)
 | [.agg [.int .i64 w,.int .i64 h,.int .i64 s,.int .i64 v0,.int .i64 v1,.int .i64 d0,.int .i64 d1,.int .i64 r],.int .i64 a,.int .i64 b]=>some ([M.Gd.ok (M.Gd.mk w h s v0 v1 d0 d1 r),M.Gd.cell (M.Gd.mk w h s v0 v1 d0 d1 r) a,M.Gd.cell (M.Gd.mk w h s v0 v1 d0 d1 r) b],.agg [SI (M.Gd.D0 (M.Gd.mk w h s v0 v1 d0 d1 r) a b),SI (M.Gd.D1 (M.Gd.mk w h s v0 v1 d0 d1 r) a b)])
 | _=>none
def Rr93 (w h s v0 v1 d0 d1 r:Int) (a b:Int):Prop:=(fun (z1 z2 z4:Int) (z10:Prop)=>(fun (z5 z6 z7 z8:Int)=>(fun (z0 z3:Int)=>(fun (z9:Int)=>z10∧z10∧R64 z1∧z10∧R64 (Int.tdiv a w)∧z10∧R64 (Int.tdiv b w)∧R64 z2∧R64 (- z1)∧R64 (- z2)∧R64 (max z1 (- z1)-z4)∧R64 z5∧R64 (z5*z5)∧R64 (max z2 (- z2)-z4)∧R64 z6∧R64 (z6*z6)∧R64 z0∧R64 (d0*d0)∧R64 (z0+d0*d0)∧R64 z7∧R64 (z7*s)∧R64 (z7*s*(z7*s))∧R64 z8∧R64 (z8*s)∧R64 (z8*s*(z8*s))∧R64 z3∧R64 (d1*d1)∧R64 (z3+d1*d1)∧R64 (z0+d0*d0+z4)∧R64 z9∧z9=M.Gd.D0 (M.Gd.mk w h s v0 v1 d0 d1 r) a b∧(↑(M.root (z3+d1*d1)):Int)=M.Gd.D1 (M.Gd.mk w h s v0 v1 d0 d1 r) a b) ((↑(M.root (z0+d0*d0+z4)):Int)-z4)) (z5*z5+z6*z6) (z7*s*(z7*s)+z8*s*(z8*s))) (max (0:Int) (max z1 (- z1)-z4)*s) (max (0:Int) (max z2 (- z2)-z4)*s) (max z1 (- z1)+z4) (max z2 (- z2)+z4)) (Int.tmod a w-Int.tmod b w) (Int.tdiv a w-Int.tdiv b w) (1:Int) (w≠(0:Int))
theorem r93 (w h s v0 v1 d0 d1 r:Int) (a b:Int):V true [] [(105,pureE e105),(106,pureE e106)] Try.f93 [0,1,2,3,6,7,8,9,10] [] [.agg [SI w,SI h,SI s,SI v0,SI v1,SI d0,SI d1,SI r],SI a,SI b] (.agg [SI (M.Gd.D0 (M.Gd.mk w h s v0 v1 d0 d1 r) a b),SI (M.Gd.D1 (M.Gd.mk w h s v0 v1 d0 d1 r) a b)])=Rr93 w h s v0 v1 d0 d1 r a b:=by kernel_rfl
theorem br93 (w h s v0 v1 d0 d1 r:Int) (a b:Int) (hp:(M.Gd.ok (M.Gd.mk w h s v0 v1 d0 d1 r))∧(M.Gd.cell (M.Gd.mk w h s v0 v1 d0 d1 r) a)∧(M.Gd.cell (M.Gd.mk w h s v0 v1 d0 d1 r) b)∧AllP []):Rr93 w h s v0 v1 d0 d1 r a b:=by
 unfold Rr93
 dsimp -iota -proj -eta -zeta only
 obtain ⟨hk,ha,hb,-⟩:=id hp
 have hn:=M.Gd.near_far hk ha hb
 have hd:=M.Gd.dxy hk ha hb
 have hxa:=M.Gd.cell_xy hk ha
 have hxb:=M.Gd.cell_xy hk hb
 have hw:w≠0:=by have:=hk.1.1; simp only at this; omega
 have hd0:=hk.2.2.2.2.1
 have m1:Int.tmod a w=a%w:=Int.tmod_eq_emod_of_nonneg ha.1
 have m2:Int.tmod b w=b%w:=Int.tmod_eq_emod_of_nonneg hb.1
 have m3:Int.tdiv a w=a/w:=Int.tdiv_eq_ediv_of_nonneg ha.1
 have m4:Int.tdiv b w=b/w:=Int.tdiv_eq_ediv_of_nonneg hb.1
 have ex:max (a%w-b%w) (-(a%w-b%w))=M.Gd.dx (M.Gd.mk w h s v0 v1 d0 d1 r) a b:=rfl
 have ey:max (a/w-b/w) (-(a/w-b/w))=M.Gd.dy (M.Gd.mk w h s v0 v1 d0 d1 r) a b:=rfl
 have e0:M.Gd.D0 (M.Gd.mk w h s v0 v1 d0 d1 r) a b=(M.root (M.Gd.near (M.Gd.mk w h s v0 v1 d0 d1 r) a b+1):Int)-1:=rfl
 have e1:M.Gd.D1 (M.Gd.mk w h s v0 v1 d0 d1 r) a b=(M.root (M.Gd.far (M.Gd.mk w h s v0 v1 d0 d1 r) a b):Int):=rfl
 have e2:M.Gd.near (M.Gd.mk w h s v0 v1 d0 d1 r) a b=max 0 (M.Gd.dx (M.Gd.mk w h s v0 v1 d0 d1 r) a b-1)*s*(max 0 (M.Gd.dx (M.Gd.mk w h s v0 v1 d0 d1 r) a b-1)*s)+max 0 (M.Gd.dy (M.Gd.mk w h s v0 v1 d0 d1 r) a b-1)*s*(max 0 (M.Gd.dy (M.Gd.mk w h s v0 v1 d0 d1 r) a b-1)*s)+d0*d0:=rfl
 have e3:M.Gd.far (M.Gd.mk w h s v0 v1 d0 d1 r) a b=(M.Gd.dx (M.Gd.mk w h s v0 v1 d0 d1 r) a b+1)*s*((M.Gd.dx (M.Gd.mk w h s v0 v1 d0 d1 r) a b+1)*s)+(M.Gd.dy (M.Gd.mk w h s v0 v1 d0 d1 r) a b+1)*s*((M.Gd.dy (M.Gd.mk w h s v0 v1 d0 d1 r) a b+1)*s)+d1*d1:=rfl
 have hz:=M.Gd.D_bd hk ha hb
 rw [e0,e1] at hz
 simp only at hn hxa hxb hd0
 rw [e2,e3] at hn hz
 simp only [m1,m2,m3,m4,ex,ey,e0,e1,e2,e3]
 generalize M.Gd.dx (M.Gd.mk w h s v0 v1 d0 d1 r) a b=x at *
 generalize M.Gd.dy (M.Gd.mk w h s v0 v1 d0 d1 r) a b=y at *
 clear m1 m2 m3 m4 ex ey e0 e1 e2 e3 hp
 generalize a%w=aw at *
 generalize b%w=bw at *
 generalize a/w=ah at *
 generalize b/w=bh at *
 generalize max 0 (x-1)*s=p at *
 generalize max 0 (y-1)*s=q at *
 generalize (x+1)*s=P at *
 generalize (y+1)*s=Q at *
 have b1:=M.Gd.sq_bd (x:=p) (y:=240000) (by omega) (by omega)
 have b2:=M.Gd.sq_bd (x:=q) (y:=240000) (by omega) (by omega)
 have b3:=M.Gd.sq_bd (x:=P) (y:=240000) (by omega) (by omega)
 have b4:=M.Gd.sq_bd (x:=Q) (y:=240000) (by omega) (by omega)
 have b5:=M.Gd.sq_bd (x:=d0) (y:=700000) (by omega) (by omega)
 have b6:=M.Gd.sq_bd (x:=d1) (y:=700000) (by omega) (by omega)
 have c1:M.Gd.sq 240000=57600000000:=rfl
 have c2:M.Gd.sq 700000=490000000000:=rfl
 simp only [c1,c2] at b1 b2 b3 b4 b5 b6
 unfold M.Gd.sq at b1 b2 b3 b4 b5 b6
 generalize p*p=pp at *
 generalize q*q=qq at *
 generalize P*P=PP' at *
 generalize Q*Q=QQ at *
 generalize d0*d0=dd0 at *
 generalize d1*d1=dd1 at *
 generalize M.root (pp+qq+dd0+1)=r0 at *
 generalize M.root (PP'+QQ+dd1)=r1 at *
 unfold R64
 repeat' apply And.intro
 all_goals first | omega | trivial | rfl
theorem s93:PureOK PP 93 e93:=by
 intro xs ps res h hp
 unfold e93 at h
 split at h
 ·rename_i w h s v0 v1 d0 d1 r a b
  cases h
  simp only [AllP.cons] at hp
  exact enterH (Hold.of (r93 w h s v0 v1 d0 d1 r a b) (br93 w h s v0 v1 d0 d1 r a b hp)) (.nil) (.cons (pureE_ok s105) (.cons (pureE_ok s106) (.nil))) (k:=93) (by kernel_rfl) (by kernel_rfl) (fun _=>.nil)
 ·cases h
def e64:List SV→Option (List Prop × SV)
 | [.agg [.int .i64 w,.int .i64 h,.int .i64 s,.int .i64 v0,.int .i64 v1,.int .i64 d0,.int .i64 d1,.int .i64 r],.int .i64 a,.int .i64 b]=>some ([M.Gd.ok (M.Gd.mk w h s v0 v1 d0 d1 r),M.Gd.cell (M.Gd.mk w h s v0 v1 d0 d1 r) a,M.Gd.cell (M.Gd.mk w h s v0 v1 d0 d1 r) b],.agg [SI (M.Gd.T0 (M.Gd.mk w h s v0 v1 d0 d1 r) a b),SI (M.Gd.T1 (M.Gd.mk w h s v0 v1 d0 d1 r) a b)])
 | _=>none
def Rr64 (w h s v0 v1 d0 d1 r:Int) (a b:Int):Prop:=(fun (z0:M.Gd)=>(fun (z1 z2:Int)=>M.Gd.ok z0∧M.Gd.cell z0 a∧M.Gd.cell z0 b∧R64 z2∧v1≠(0:Int)∧R64 (Int.tdiv z2 v1)∧R64 ((1000:Int)*M.Gd.D1 z0 a b)∧R64 z1∧v0≠(0:Int)∧R64 (Int.tdiv z1 v0)∧R64 (Int.tdiv z1 v0+(1:Int))∧Int.tdiv z2 v1=M.Gd.T0 z0 a b∧Int.tdiv z1 v0+(1:Int)=M.Gd.T1 z0 a b) ((1000:Int)*M.Gd.D1 z0 a b-(1:Int)) ((1000:Int)*M.Gd.D0 z0 a b)) (M.Gd.mk w h s v0 v1 d0 d1 r)
theorem r64 (w h s v0 v1 d0 d1 r:Int) (a b:Int):V true [] [(93,pureE e93)] Try.f64 [0,1,2,3,6,7] [] [.agg [SI w,SI h,SI s,SI v0,SI v1,SI d0,SI d1,SI r],SI a,SI b] (.agg [SI (M.Gd.T0 (M.Gd.mk w h s v0 v1 d0 d1 r) a b),SI (M.Gd.T1 (M.Gd.mk w h s v0 v1 d0 d1 r) a b)])=Rr64 w h s v0 v1 d0 d1 r a b:=by kernel_rfl
theorem br64 (w h s v0 v1 d0 d1 r:Int) (a b:Int) (hp:(M.Gd.ok (M.Gd.mk w h s v0 v1 d0 d1 r))∧(M.Gd.cell (M.Gd.mk w h s v0 v1 d0 d1 r) a)∧(M.Gd.cell (M.Gd.mk w h s v0 v1 d0 d1 r) b)∧AllP []):Rr64 w h s v0 v1 d0 d1 r a b:=by
 unfold Rr64
 dsimp -iota -proj -eta -zeta only
 obtain ⟨hk,ha,hb,-⟩:=id hp
 have hD:=M.Gd.D_bd hk ha hb
 have hT:=M.Gd.T_bd hk ha hb
 have hv:=hk.2.2.2.1
 simp only at hv
 have e0:M.Gd.T0 (M.Gd.mk w h s v0 v1 d0 d1 r) a b=1000*M.Gd.D0 (M.Gd.mk w h s v0 v1 d0 d1 r) a b/v1:=rfl
 have e1:M.Gd.T1 (M.Gd.mk w h s v0 v1 d0 d1 r) a b=(1000*M.Gd.D1 (M.Gd.mk w h s v0 v1 d0 d1 r) a b-1)/v0+1:=rfl
 have m1:Int.tdiv (1000*M.Gd.D0 (M.Gd.mk w h s v0 v1 d0 d1 r) a b) v1=1000*M.Gd.D0 (M.Gd.mk w h s v0 v1 d0 d1 r) a b/v1:=Int.tdiv_eq_ediv_of_nonneg (by omega)
 have m2:Int.tdiv (1000*M.Gd.D1 (M.Gd.mk w h s v0 v1 d0 d1 r) a b-1) v0=(1000*M.Gd.D1 (M.Gd.mk w h s v0 v1 d0 d1 r) a b-1)/v0:=Int.tdiv_eq_ediv_of_nonneg (by omega)
 simp only [m1,m2,← e0,← e1]
 have m3:(1000*M.Gd.D1 (M.Gd.mk w h s v0 v1 d0 d1 r) a b-1)/v0=M.Gd.T1 (M.Gd.mk w h s v0 v1 d0 d1 r) a b-1:=by rw [e1]; omega
 simp only [m3]
 refine ⟨hk,ha,hb,?_⟩
 unfold R64
 repeat' apply And.intro
 all_goals first | omega | trivial
theorem s64:PureOK PP 64 e64:=by
 intro xs ps res h hp
 unfold e64 at h
 split at h
 ·rename_i w h s v0 v1 d0 d1 r a b
  cases h
  simp only [AllP.cons] at hp
  exact enterH (Hold.of (r64 w h s v0 v1 d0 d1 r a b) (br64 w h s v0 v1 d0 d1 r a b hp)) (.nil) (.cons (pureE_ok s93) (.nil)) (k:=64) (by kernel_rfl) (by kernel_rfl) (fun _=>.nil)
 ·cases h
def e68:List SV→Option (List Prop × SV)
 | [.agg [.int .i64 w,.int .i64 h,.int .i64 s,.int .i64 v0,.int .i64 v1,.int .i64 d0,.int .i64 d1,.int .i64 r],.int .i64 k,.int .i64 a,.int .i64 b]=>some ([M.Gd.ok (M.Gd.mk w h s v0 v1 d0 d1 r),M.Gd.cell (M.Gd.mk w h s v0 v1 d0 d1 r) a,M.Gd.cell (M.Gd.mk w h s v0 v1 d0 d1 r) b,0≤k,k≤10],.agg [SI (M.Gd.S0 (M.Gd.mk w h s v0 v1 d0 d1 r) k a b),SI (M.Gd.S1 (M.Gd.mk w h s v0 v1 d0 d1 r) k a b)])
 | _=>none
def Rr68 (w h s v0 v1 d0 d1 r:Int) (k a b:Int):Prop:=(fun (z1:Int) (z0:M.Gd)=>(fun (z2 z3:Int)=>M.Gd.ok z0∧M.Gd.cell z0 a∧M.Gd.cell z0 b∧R64 z1∧(0:Int)≤z2∧z2≤(1048576:Int)∧R64 (z1-M.fall z2)∧R64 (z1-M.fall z2-r)∧R64 z1∧(0:Int)≤z3∧z3≤(1048576:Int)∧R64 (z1-M.fall z3)∧R64 (z1-M.fall z3+r)∧z1-M.fall z2-r=M.Gd.S0 z0 k a b∧z1-M.fall z3+r=M.Gd.S1 z0 k a b) (M.Gd.D1 z0 a b) (M.Gd.D0 z0 a b)) ((100:Int)*k) (M.Gd.mk w h s v0 v1 d0 d1 r)
theorem r68 (w h s v0 v1 d0 d1 r:Int) (k a b:Int):V true [] [(93,pureE e93),(95,pureE e95)] Try.f68 [0,1,2,3,4,8,9] [] [.agg [SI w,SI h,SI s,SI v0,SI v1,SI d0,SI d1,SI r],SI k,SI a,SI b] (.agg [SI (M.Gd.S0 (M.Gd.mk w h s v0 v1 d0 d1 r) k a b),SI (M.Gd.S1 (M.Gd.mk w h s v0 v1 d0 d1 r) k a b)])=Rr68 w h s v0 v1 d0 d1 r k a b:=by kernel_rfl
theorem br68 (w h s v0 v1 d0 d1 r:Int) (k a b:Int) (hp:(M.Gd.ok (M.Gd.mk w h s v0 v1 d0 d1 r))∧(M.Gd.cell (M.Gd.mk w h s v0 v1 d0 d1 r) a)∧(M.Gd.cell (M.Gd.mk w h s v0 v1 d0 d1 r) b)∧(0≤k)∧(k≤10)∧AllP []):Rr68 w h s v0 v1 d0 d1 r k a b:=by
 unfold Rr68
 dsimp -iota -proj -eta -zeta only
 obtain ⟨hk,ha,hb,k1,k2,-⟩:=id hp
 have hD:=M.Gd.D_bd hk ha hb
 have hr:=hk.2.2.2.2.2
 simp only at hr
 have f1:=M.fall_bd hD.1 (by omega)
 have f2:=M.fall_bd (d:=M.Gd.D1 (M.Gd.mk w h s v0 v1 d0 d1 r) a b) (by omega) hD.2.2.2
 have e0:M.Gd.S0 (M.Gd.mk w h s v0 v1 d0 d1 r) k a b=100*k-M.fall (M.Gd.D1 (M.Gd.mk w h s v0 v1 d0 d1 r) a b)-r:=rfl
 have e1:M.Gd.S1 (M.Gd.mk w h s v0 v1 d0 d1 r) k a b=100*k-M.fall (M.Gd.D0 (M.Gd.mk w h s v0 v1 d0 d1 r) a b)+r:=rfl
 rw [e0,e1]
 refine ⟨hk,ha,hb,?_⟩
 unfold R64
 omega
theorem s68:PureOK PP 68 e68:=by
 intro xs ps res h hp
 unfold e68 at h
 split at h
 ·rename_i w h s v0 v1 d0 d1 r k a b
  cases h
  simp only [AllP.cons] at hp
  exact enterH (Hold.of (r68 w h s v0 v1 d0 d1 r k a b) (br68 w h s v0 v1 d0 d1 r k a b hp)) (.nil) (.cons (pureE_ok s93) (.cons (pureE_ok s95) (.nil))) (k:=68) (by kernel_rfl) (by kernel_rfl) (fun _=>.nil)
 ·cases h
end Go.Proofs.Ytoncoofmijjgeaa.Sep
namespace Go.Proofs.Ytoncoofmijjgeaa.Sep
open Go
set_option linter.unusedVariables false
set_option linter.unusedSimpArgs false
def e92:List SV→Option (List Prop × SV)
 | [.int .i64 c,.sptr 8 1 F_1 0 0]=>match F_1 0 with
  | [.int .i64 w,.int .i64 ht,.int .i64 s,.int .i64 v0,.int .i64 v1,.int .i64 d0,.int .i64 d1,.int .i64 r]=>some ([M.Gd.ok (M.Gd.mk w ht s v0 v1 d0 d1 r)],.bool (!decide (M.Gd.cell (M.Gd.mk w ht s v0 v1 d0 d1 r) c)))
  | _=>none
 | _=>none
def Rr92 (w ht s v0 v1 d0 d1 r:Int) (c:Int):Prop:=(0:Nat)<(1:Nat)∧M.Gd.ok (M.Gd.mk w ht s v0 v1 d0 d1 r)∧(!decide (M.Gd.cell (M.Gd.mk w ht s v0 v1 d0 d1 r) c)) = !decide (M.Gd.cell (M.Gd.mk w ht s v0 v1 d0 d1 r) c)
theorem r92 (w ht s v0 v1 d0 d1 r:Int) (c:Int):V true [] [(83,pureE e83)] Try.f92 [0,1,3] [] [SI c,.sptr 8 1 (fun _=>[SI w,SI ht,SI s,SI v0,SI v1,SI d0,SI d1,SI r]) 0 0] (.bool (!decide (M.Gd.cell (M.Gd.mk w ht s v0 v1 d0 d1 r) c)))=Rr92 w ht s v0 v1 d0 d1 r c:=by kernel_rfl
theorem br92 (w ht s v0 v1 d0 d1 r:Int) (c:Int) (hp:(M.Gd.ok (M.Gd.mk w ht s v0 v1 d0 d1 r))∧AllP []):Rr92 w ht s v0 v1 d0 d1 r c:=by
 unfold Rr92
 obtain ⟨hk,-⟩:=id hp
 simp [hk]
theorem s92:PureOK PP 92 e92:=by
 intro xs ps res h hp
 unfold e92 at h
 split at h
 ·rename_i c F_1
  split at h
  ·rename_i w ht s v0 v1 d0 d1 r EF_1
   cases h
   simp only [AllP.cons] at hp
   exact Spec.args (enterH (Hold.of (r92 w ht s v0 v1 d0 d1 r c) (br92 w ht s v0 v1 d0 d1 r c hp)) (.nil) (.cons (pureE_ok s83) (.nil)) (k:=92) (by kernel_rfl) (by kernel_rfl) (fun _=>.nil)) (.cons (.refl _) (.cons (.ref EF_1 (.refl _)) .nil))
  ·cases h
 ·cases h
def lp104 (w ht s v0 v1 d0 d1 r:Int) (n:Nat) (x:Nat→Int):LoopS where
 ι:=Nat
 β:=Int
 pre i:=i≤n∧n≤100000∧M.Gd.ok (M.Gd.mk w ht s v0 v1 d0 d1 r)
 μ i:=n-i
 next i _ _ _:=i+1
 out i:=M.ixF (fun j=>!decide (M.Gd.cell (M.Gd.mk w ht s v0 v1 d0 d1 r) (x j))) (n-i) i
 early q:=decide (0≤q)
 SA i:=[(0,.sl 1 n (fun k=>[SI (x k)])),(1,.fn 92 [] [.sptr 8 1 (fun _=>[SI w,SI ht,SI s,SI v0,SI v1,SI d0,SI d1,SI r]) 0 0]),(7,SI n),(8,SI i)]
 SH _:=[]
 n0:=0
 NA _:=[]
 NH _:=[]
 n1:=0
 RA q:=[(4,SI q)]
 RH _:=[]
def Rq104 (w ht s v0 v1 d0 d1 r:Int) (n:Nat) (x:Nat→Int) (i:Nat):Prop:=(fun (z1 z5:Int) (z2:M.Gd) (z3:Nat)=>(fun (z4:Bool) (z0:Nat→Nat→Int)=>(fun (z6:Bool)=>(decide (z1<z5)=true→(0:Int)≤z1∧z1<z5∧Int.toNat z1<n∧M.Gd.ok z2∧(z4=true→z6=true∧z1=z0 (n-i) i∧True)∧(z4=false→R64 (z1+(1:Int))∧(z3≤n∧n≤(100000:Nat)∧M.Gd.ok z2)∧n-z3<n-i∧z0 (n-z3) z3=z0 (n-i) i∧(n=n∧∀ (k:Nat),k<n→x k=x k)∧(1:Nat)=(1:Nat)∧(0:Nat)=(0:Nat)∧(∀ (q:Nat),q<(1:Nat)→w=w∧ht=ht∧s=s∧v0=v0∧v1=v1∧d0=d0∧d1=d1∧r=r)∧z5=z5∧z1+(1:Int)=(↑z3:Int)∧True))∧(decide (z1<z5)=false→z6=false∧True)) (decide ((0:Int)≤z0 (n-i) i))) (!decide (M.Gd.cell z2 (x (Int.toNat z1)))) (M.ixF (fun j=>!decide (M.Gd.cell z2 (x j))))) (↑i:Int) (↑n:Int) (M.Gd.mk w ht s v0 v1 d0 d1 r) (i+(1:Nat))
theorem q104 (w ht s v0 v1 d0 d1 r:Int) (n:Nat) (x:Nat→Int) (i:Nat):VL true [] [(92,pureE e92)] YS.none Try.f104 0 [0,1,4,5,7,8,9,16] [] 0 (lp104 w ht s v0 v1 d0 d1 r n x) (i)=Rq104 w ht s v0 v1 d0 d1 r n x i:=by kernel_rfl
theorem peq104 (w ht s v0 v1 d0 d1 r:Int) (n:Nat) (x:Nat→Int) (i:Nat):(lp104 w ht s v0 v1 d0 d1 r n x).pre (i)=(i≤n∧n≤(100000:Nat)∧M.Gd.ok (M.Gd.mk w ht s v0 v1 d0 d1 r)):=by kernel_rfl
theorem bq104 (w ht s v0 v1 d0 d1 r:Int) (n:Nat) (x:Nat→Int) (i:Nat) (hp:i≤n∧n≤(100000:Nat)∧M.Gd.ok (M.Gd.mk w ht s v0 v1 d0 d1 r)):Rq104 w ht s v0 v1 d0 d1 r n x i:=by
 unfold Rq104
 dsimp -iota -proj -eta -zeta only
 obtain ⟨h1,h2,hk⟩:=id hp
 have r1:R64 ((i:Int)+1):=by unfold R64; omega
 simp only [Int.toNat_natCast,r1]
 by_cases hl:i<n
 ·obtain ⟨f,hf⟩ : ∃ f,n-i=f+1:=⟨n-i-1,by omega⟩
  have hf':n-(i+1)=f:=by omega
  by_cases hc:M.Gd.cell (M.Gd.mk w ht s v0 v1 d0 d1 r) (x i)
  ·simp [hl,hk,hc,hf,hf',M.ixF]
   try omega
  ·simp [hl,hk,hc,hf,hf',M.ixF]
   try omega
 ·have e:n-i=0:=by omega
  simp [hl,hk,e,M.ixF]
  try omega
theorem t104 (w ht s v0 v1 d0 d1 r:Int) (n:Nat) (x:Nat→Int) {F:Fence} (hF:FOK F) (Y:YEnv PP YS.none):∀ Q A H nx,loopT false Try.f104.ntmps 0 (lp104 w ht s v0 v1 d0 d1 r n x) (fun _ _ _=>(0:Nat)) Q A H nx→WPS Y F Try.f104.ntmps 0 (.block 0 (blkAt 0 Try.f104)) Q A H nx :=
 loopW (E:=[]) (.nil) (O:=[(92,pureE e92)]) (.cons (pureE_ok s92) (.nil)) (ck:=true) (L:=[0,1,4,5,7,8,9,16]) (f:=Try.f104) (m:=0) (id:=0) (l:=(lp104 w ht s v0 v1 d0 d1 r n x)) (LI:=fun i=>[]) Y hF (by kernel_rfl) (fun _=>.nil) (by
  rintro i hp
  exact Hold.of (q104 w ht s v0 v1 d0 d1 r n x i) (bq104 w ht s v0 v1 d0 d1 r n x i ((peq104 w ht s v0 v1 d0 d1 r n x i).mp hp)))
theorem ixF_m1 {c:Nat→Bool} : ∀ {f i:Nat},M.ixF c f i<0→M.ixF c f i = -1
 | 0,_,_=>rfl
 | f+1,i,h=>by
  unfold M.ixF at h ⊢
  split
  ·rename_i hc; rw [if_pos hc] at h; omega
  ·rename_i hc; rw [if_neg hc] at h; exact ixF_m1 h
def e104:List SV→Option (List Prop × SV)
 | [.sl 1 n g_1,.fn 92 [] [.sptr 8 1 F_2 0 0]]=>match F_2 0 with
  | [.int .i64 w,.int .i64 ht,.int .i64 s,.int .i64 v0,.int .i64 v1,.int .i64 d0,.int .i64 d1,.int .i64 r]=>some ([Row 1 n g_1,n≤100000,M.Gd.ok (M.Gd.mk w ht s v0 v1 d0 d1 r)],SI (M.ixF (fun j=>!decide (M.Gd.cell (M.Gd.mk w ht s v0 v1 d0 d1 r) ((cI g_1 0) j))) n 0))
  | _=>none
 | _=>none
def Rr104 (w ht s v0 v1 d0 d1 r:Int) (n:Nat) (x:Nat→Int):Prop:=(fun (z1:Nat) (z0:Nat→Nat→Int)=>(fun (z2:Bool)=>(z1≤n∧n≤(100000:Nat)∧M.Gd.ok (M.Gd.mk w ht s v0 v1 d0 d1 r))∧((n=n∧∀ (k:Nat),k<n→x k=x k)∧(1:Nat)=(1:Nat)∧z1=z1∧(∀ (q:Nat),q<(1:Nat)→w=w∧ht=ht∧s=s∧v0=v0∧v1=v1∧d0=d0∧d1=d1∧r=r)∧(↑n:Int)=(↑n:Int)∧(0:Int)=(↑z1:Int)∧True)∧(z2=false→(- 1:Int)=z0 n z1)∧(z2=true→z0 (n-z1) z1=z0 n z1)) (decide ((0:Int)≤z0 (n-z1) z1))) (0:Nat) (M.ixF (fun j=>!decide (M.Gd.cell (M.Gd.mk w ht s v0 v1 d0 d1 r) (x j))))
theorem r104 (w ht s v0 v1 d0 d1 r:Int) (n:Nat) (x:Nat→Int):V true [] [] Try.f104 [0,1,4,5,7,8,9,16] [(0,loopT false Try.f104.ntmps 0 (lp104 w ht s v0 v1 d0 d1 r n x) (fun _ _ _=>(0:Nat)))] [.sl 1 n (fun k=>[SI (x k)]),.fn 92 [] [.sptr 8 1 (fun _=>[SI w,SI ht,SI s,SI v0,SI v1,SI d0,SI d1,SI r]) 0 0]] (SI (M.ixF (fun j=>!decide (M.Gd.cell (M.Gd.mk w ht s v0 v1 d0 d1 r) (x j))) n 0))=Rr104 w ht s v0 v1 d0 d1 r n x:=by kernel_rfl
theorem br104 (w ht s v0 v1 d0 d1 r:Int) (n:Nat) (x:Nat→Int) (hp:(n≤100000)∧(M.Gd.ok (M.Gd.mk w ht s v0 v1 d0 d1 r))∧AllP []):Rr104 w ht s v0 v1 d0 d1 r n x:=by
 unfold Rr104
 dsimp -iota -proj -eta -zeta only
 obtain ⟨h1,hk,-⟩:=id hp
 simp [h1,hk]
 exact fun h=>(ixF_m1 h).symm
theorem s104:PureOK PP 104 e104:=by
 intro xs ps res h hp
 unfold e104 at h
 split at h
 ·rename_i n g_1 F_2
  split at h
  ·rename_i w ht s v0 v1 d0 d1 r EF_2
   cases h
   simp only [AllP.cons] at hp
   obtain ⟨Hg_1,hp⟩:=hp
   exact Spec.args (enterH (Hold.of (r104 w ht s v0 v1 d0 d1 r n (cI g_1 0)) (br104 w ht s v0 v1 d0 d1 r n (cI g_1 0) hp)) (.nil) (.nil) (k:=104) (by kernel_rfl) (by kernel_rfl) (fun Y=>.cons (by kernel_rfl) (t104 w ht s v0 v1 d0 d1 r n (cI g_1 0) FOK.wide Y) (.nil))) (.cons (.row Hg_1 fun _=>rfl) (.cons (.fn (.refl _) (.cons (.ref EF_2 (.refl _)) .nil)) .nil))
  ·cases h
 ·cases h
def e91:List SV→Option (List Prop × SV)
 | [.sl 1 n g_1,.fn 92 [] [.sptr 8 1 F_2 0 0]]=>match F_2 0 with
  | [.int .i64 w,.int .i64 ht,.int .i64 s,.int .i64 v0,.int .i64 v1,.int .i64 d0,.int .i64 d1,.int .i64 r]=>some ([Row 1 n g_1,n≤100000,M.Gd.ok (M.Gd.mk w ht s v0 v1 d0 d1 r)],.bool (!decide (M.Gd.all (M.Gd.mk w ht s v0 v1 d0 d1 r) n (cI g_1 0))))
  | _=>none
 | _=>none
def Rr91 (w ht s v0 v1 d0 d1 r:Int) (n:Nat) (x:Nat→Int):Prop:=(∀ (k:Nat),k<n→x k=x k)∧n≤(100000:Nat)∧M.Gd.ok (M.Gd.mk w ht s v0 v1 d0 d1 r)∧decide ((0:Int)≤M.ixF (fun j=>!decide (M.Gd.cell (M.Gd.mk w ht s v0 v1 d0 d1 r) (x j))) n (0:Nat)) = !decide (M.Gd.all (M.Gd.mk w ht s v0 v1 d0 d1 r) n x)
theorem r91 (w ht s v0 v1 d0 d1 r:Int) (n:Nat) (x:Nat→Int):V true [] [(104,pureE e104)] Try.f91 [0,1,4] [] [.sl 1 n (fun k=>[SI (x k)]),.fn 92 [] [.sptr 8 1 (fun _=>[SI w,SI ht,SI s,SI v0,SI v1,SI d0,SI d1,SI r]) 0 0]] (.bool (!decide (M.Gd.all (M.Gd.mk w ht s v0 v1 d0 d1 r) n x)))=Rr91 w ht s v0 v1 d0 d1 r n x:=by kernel_rfl
theorem br91 (w ht s v0 v1 d0 d1 r:Int) (n:Nat) (x:Nat→Int) (hp:(n≤100000)∧(M.Gd.ok (M.Gd.mk w ht s v0 v1 d0 d1 r))∧AllP []):Rr91 w ht s v0 v1 d0 d1 r n x:=by
 unfold Rr91
 obtain ⟨h1,hk,-⟩:=id hp
 have e:decide (0≤M.ixF (fun j=>!decide (M.Gd.cell (M.Gd.mk w ht s v0 v1 d0 d1 r) (x j))) n 0) = !decide (M.Gd.all (M.Gd.mk w ht s v0 v1 d0 d1 r) n x):=by
  have:=@M.ixF_neg (fun j=>!decide (M.Gd.cell (M.Gd.mk w ht s v0 v1 d0 d1 r) (x j))) n 0
  by_cases h:M.Gd.all (M.Gd.mk w ht s v0 v1 d0 d1 r) n x
  ·have h':¬ 0≤M.ixF (fun j=>!decide (M.Gd.cell (M.Gd.mk w ht s v0 v1 d0 d1 r) (x j))) n 0:=fun g=>by
    obtain ⟨k,-,k1,k2⟩:=this.1 g
    have:=h k (by omega)
    simp [this] at k2
   simp [h,h']
  ·have h':0≤M.ixF (fun j=>!decide (M.Gd.cell (M.Gd.mk w ht s v0 v1 d0 d1 r) (x j))) n 0:=this.2 (by
    refine Classical.byContradiction fun g=>h fun i hi => ?_
    exact Decidable.byContradiction fun g'=>g ⟨i,by omega,by omega,by simp [g']⟩)
   simp [h,h']
 simp only [e]
 simp [h1,hk]
theorem s91:PureOK PP 91 e91:=by
 intro xs ps res h hp
 unfold e91 at h
 split at h
 ·rename_i n g_1 F_2
  split at h
  ·rename_i w ht s v0 v1 d0 d1 r EF_2
   cases h
   simp only [AllP.cons] at hp
   obtain ⟨Hg_1,hp⟩:=hp
   exact Spec.args (enterH (Hold.of (r91 w ht s v0 v1 d0 d1 r n (cI g_1 0)) (br91 w ht s v0 v1 d0 d1 r n (cI g_1 0) hp)) (.nil) (.cons (pureE_ok s104) (.nil)) (k:=91) (by kernel_rfl) (by kernel_rfl) (fun _=>.nil)) (.cons (.row Hg_1 fun _=>rfl) (.cons (.fn (.refl _) (.cons (.ref EF_2 (.refl _)) .nil)) .nil))
  ·cases h
 ·cases h
def e63:List SV→Option (List Prop × SV)
 | [.agg [.int .i64 w,.int .i64 ht,.int .i64 s,.int .i64 v0,.int .i64 v1,.int .i64 d0,.int .i64 d1,.int .i64 r],.sl 1 n g_1]=>some ([Row 1 n g_1,n≤100000],SI (M.Gd.kn (M.Gd.mk w ht s v0 v1 d0 d1 r) n (cI g_1 0)))
 | _=>none
def Rr63 (w ht s v0 v1 d0 d1 r:Int) (n:Nat) (x:Nat→Int):Prop:=(fun (z0:M.Gd)=>(fun (z1:Bool)=>(z1=true→M.Gd.er z0=M.Gd.kn z0 n x)∧(z1=false→(∀ (k:Nat),k<n→x k=x k)∧n≤(100000:Nat)∧M.Gd.ok z0∧((!decide (M.Gd.all z0 n x))=true→(4:Int)=M.Gd.kn z0 n x)∧((!decide (M.Gd.all z0 n x))=false→(0:Int)=M.Gd.kn z0 n x))) (!decide (M.Gd.er z0=(0:Int)))) (M.Gd.mk w ht s v0 v1 d0 d1 r)
theorem r63 (w ht s v0 v1 d0 d1 r:Int) (n:Nat) (x:Nat→Int):V true [] [(28,pureE e28),(91,pureE e91)] Try.f63 [0,1,2,4,5,9,13] [] [.agg [SI w,SI ht,SI s,SI v0,SI v1,SI d0,SI d1,SI r],.sl 1 n (fun k=>[SI (x k)])] (SI (M.Gd.kn (M.Gd.mk w ht s v0 v1 d0 d1 r) n x))=Rr63 w ht s v0 v1 d0 d1 r n x:=by kernel_rfl
theorem br63 (w ht s v0 v1 d0 d1 r:Int) (n:Nat) (x:Nat→Int) (hp:(n≤100000)∧AllP []):Rr63 w ht s v0 v1 d0 d1 r n x:=by
 unfold Rr63
 dsimp -iota -proj -eta -zeta only
 obtain ⟨h1,-⟩:=id hp
 unfold M.Gd.er M.Gd.kn
 by_cases hk:M.Gd.ok (M.Gd.mk w ht s v0 v1 d0 d1 r)
 ·by_cases ha:M.Gd.all (M.Gd.mk w ht s v0 v1 d0 d1 r) n x
  ·simp [hk,ha,h1]
  ·simp [hk,ha,h1]
 ·simp [hk,h1]
theorem s63:PureOK PP 63 e63:=by
 intro xs ps res h hp
 unfold e63 at h
 split at h
 ·rename_i w ht s v0 v1 d0 d1 r n g_1
  cases h
  simp only [AllP.cons] at hp
  obtain ⟨Hg_1,hp⟩:=hp
  exact Spec.args (enterH (Hold.of (r63 w ht s v0 v1 d0 d1 r n (cI g_1 0)) (br63 w ht s v0 v1 d0 d1 r n (cI g_1 0) hp)) (.nil) (.cons (pureE_ok s28) (.cons (pureE_ok s91) (.nil))) (k:=63) (by kernel_rfl) (by kernel_rfl) (fun _=>.nil)) (.cons (.refl _) (.cons (.row Hg_1 fun _=>rfl) .nil))
 ·cases h
def e24:List SV→Option (List Prop × SV)
 | [.agg [.int .i64 w,.int .i64 ht,.int .i64 s,.int .i64 v0,.int .i64 v1,.int .i64 d0,.int .i64 d1,.int .i64 r],.int .i64 a,.int .i64 b]=>some ([],.tup [.agg [SI (if M.Gd.kn2 (M.Gd.mk w ht s v0 v1 d0 d1 r) a b=0 then M.Gd.T0 (M.Gd.mk w ht s v0 v1 d0 d1 r) a b else 0),SI (if M.Gd.kn2 (M.Gd.mk w ht s v0 v1 d0 d1 r) a b=0 then M.Gd.T1 (M.Gd.mk w ht s v0 v1 d0 d1 r) a b else 0)],SI (M.Gd.kn2 (M.Gd.mk w ht s v0 v1 d0 d1 r) a b)])
 | _=>none
def Rr24 (w ht s v0 v1 d0 d1 r:Int) (a b:Int):Prop:=(fun (z2:Int) (z1:M.Gd) (z4:Nat)=>(fun (z3:Int) (z0:Nat→Int)=>(fun (z7:Bool) (z5 z6:Int)=>(0:Nat)+z4≤z4∧(∀ (k:Nat),k<z4→(bif decide ((0:Nat)+k=(1:Nat)) then b else bif decide ((0:Nat)+k=(0:Nat)) then a else z2)=z0 k)∧z4≤(100000:Nat)∧(z7=true→((z2=z5)∧z2=z6)∧M.Gd.kn z1 z4 z0=z3)∧(z7=false→M.Gd.ok z1∧M.Gd.cell z1 a∧M.Gd.cell z1 b∧((M.Gd.T0 z1 a b=z5)∧M.Gd.T1 z1 a b=z6)∧z2=z3)) (!decide (M.Gd.kn z1 z4 z0=z2)) (if z3=z2 then M.Gd.T0 z1 a b else z2) (if z3=z2 then M.Gd.T1 z1 a b else z2)) (M.Gd.kn2 z1 a b) (cI (fun k=>(if z4=(1:Nat) then fun x=>[SV.int IntKind.i64 b] else fun k=>[SV.int IntKind.i64 (bif decide (k=(1:Nat)) then b else bif decide (k=(0:Nat)) then a else (0:Int))]) ((0:Nat)+k)) (0:Nat))) (0:Int) (M.Gd.mk w ht s v0 v1 d0 d1 r) (2:Nat)
theorem r24 (w ht s v0 v1 d0 d1 r:Int) (a b:Int):V true [] [(63,pureE e63),(64,pureE e64)] Try.f24 [0,1,2,3,6,7,8,15] [] [.agg [SI w,SI ht,SI s,SI v0,SI v1,SI d0,SI d1,SI r],SI a,SI b] (.tup [.agg [SI (if M.Gd.kn2 (M.Gd.mk w ht s v0 v1 d0 d1 r) a b=0 then M.Gd.T0 (M.Gd.mk w ht s v0 v1 d0 d1 r) a b else 0),SI (if M.Gd.kn2 (M.Gd.mk w ht s v0 v1 d0 d1 r) a b=0 then M.Gd.T1 (M.Gd.mk w ht s v0 v1 d0 d1 r) a b else 0)],SI (M.Gd.kn2 (M.Gd.mk w ht s v0 v1 d0 d1 r) a b)])=Rr24 w ht s v0 v1 d0 d1 r a b:=by kernel_rfl
theorem br24 (w ht s v0 v1 d0 d1 r:Int) (a b:Int)  : Rr24 w ht s v0 v1 d0 d1 r a b:=by
 unfold Rr24
 dsimp -iota -proj -eta -zeta only
 simp only [M.Gd.kn_two]
 simp [cI,asI]
 have hk:=@M.Gd.kn2_ok (M.Gd.mk w ht s v0 v1 d0 d1 r) a b
 by_cases e:M.Gd.kn2 (M.Gd.mk w ht s v0 v1 d0 d1 r) a b=0
 ·obtain ⟨h1,h2,h3⟩:=hk.1 e
  simp [e,h1,h2,h3]
 ·simp [e]
theorem s24:PureOK PP 24 e24:=by
 intro xs ps res h hp
 unfold e24 at h
 split at h
 ·rename_i w ht s v0 v1 d0 d1 r a b
  cases h
  clear hp
  exact enterH (Hold.of (r24 w ht s v0 v1 d0 d1 r a b) (br24 w ht s v0 v1 d0 d1 r a b )) (.nil) (.cons (pureE_ok s63) (.cons (pureE_ok s64) (.nil))) (k:=24) (by kernel_rfl) (by kernel_rfl) (fun _=>.nil)
 ·cases h
def e25:List SV→Option (List Prop × SV)
 | [.agg [.int .i64 w,.int .i64 ht,.int .i64 s,.int .i64 v0,.int .i64 v1,.int .i64 d0,.int .i64 d1,.int .i64 r],.int .i64 a,.int .i64 b]=>some ([],.tup [.agg [SI (if M.Gd.kn2 (M.Gd.mk w ht s v0 v1 d0 d1 r) a b=0 then M.Gd.T0 (M.Gd.mk w ht s v0 v1 d0 d1 r) a b else 0),SI (if M.Gd.kn2 (M.Gd.mk w ht s v0 v1 d0 d1 r) a b=0 then M.Gd.T1 (M.Gd.mk w ht s v0 v1 d0 d1 r) a b else 0)],SI (M.Gd.kn2 (M.Gd.mk w ht s v0 v1 d0 d1 r) a b)])
 | _=>none
def e26:List SV→Option (List Prop × SV)
 | [.agg [.int .i64 w,.int .i64 ht,.int .i64 s,.int .i64 v0,.int .i64 v1,.int .i64 d0,.int .i64 d1,.int .i64 r],.int .i64 k,.int .i64 a,.int .i64 b]=>some ([],.tup [.agg [SI (if M.Gd.stE (M.Gd.mk w ht s v0 v1 d0 d1 r) k a b=0 then M.Gd.S0 (M.Gd.mk w ht s v0 v1 d0 d1 r) k a b else 0),SI (if M.Gd.stE (M.Gd.mk w ht s v0 v1 d0 d1 r) k a b=0 then M.Gd.S1 (M.Gd.mk w ht s v0 v1 d0 d1 r) k a b else 0)],SI (M.Gd.stE (M.Gd.mk w ht s v0 v1 d0 d1 r) k a b)])
 | _=>none
def Rr26 (w ht s v0 v1 d0 d1 r:Int) (k a b:Int):Prop:=(fun (z5:Bool) (z4:Int) (z1:M.Gd) (z6:Nat)=>(fun (z3:Int) (z0:Nat→Int)=>(fun (z7:Bool) (z2:Prop)=>(0:Nat)+z6≤z6∧(∀ (k:Nat),k<z6→(bif decide ((0:Nat)+k=(1:Nat)) then b else bif decide ((0:Nat)+k=(0:Nat)) then a else z4)=z0 k)∧z6≤(100000:Nat)∧(z7=true→z2∧M.Gd.kn z1 z6 z0=z3)∧(z7=false→(z5=true→z2∧(3:Int)=z3)∧(z5=false→M.Gd.ok z1∧M.Gd.cell z1 a∧M.Gd.cell z1 b∧z4≤k∧k≤(10:Int)∧((M.Gd.S0 z1 k a b=if z3=z4 then M.Gd.S0 z1 k a b else z4)∧M.Gd.S1 z1 k a b=if z3=z4 then M.Gd.S1 z1 k a b else z4)∧z4=z3))) (!decide (M.Gd.kn z1 z6 z0=z4)) ((z4=if z3=z4 then M.Gd.S0 z1 k a b else z4)∧z4=if z3=z4 then M.Gd.S1 z1 k a b else z4)) (M.Gd.stE z1 k a b) (cI (fun k=>(if z6=(1:Nat) then fun x=>[SV.int IntKind.i64 b] else fun k=>[SV.int IntKind.i64 (bif decide (k=(1:Nat)) then b else bif decide (k=(0:Nat)) then a else (0:Int))]) ((0:Nat)+k)) (0:Nat))) (!decide ((1:Int)≤k∧k≤(10:Int))) (0:Int) (M.Gd.mk w ht s v0 v1 d0 d1 r) (2:Nat)
theorem r26 (w ht s v0 v1 d0 d1 r:Int) (k a b:Int):V true [] [(63,pureE e63),(67,pureE e67),(68,pureE e68)] Try.f26 [0,1,2,3,4,8,9,10,17,22] [] [.agg [SI w,SI ht,SI s,SI v0,SI v1,SI d0,SI d1,SI r],SI k,SI a,SI b] (.tup [.agg [SI (if M.Gd.stE (M.Gd.mk w ht s v0 v1 d0 d1 r) k a b=0 then M.Gd.S0 (M.Gd.mk w ht s v0 v1 d0 d1 r) k a b else 0),SI (if M.Gd.stE (M.Gd.mk w ht s v0 v1 d0 d1 r) k a b=0 then M.Gd.S1 (M.Gd.mk w ht s v0 v1 d0 d1 r) k a b else 0)],SI (M.Gd.stE (M.Gd.mk w ht s v0 v1 d0 d1 r) k a b)])=Rr26 w ht s v0 v1 d0 d1 r k a b:=by kernel_rfl
theorem br26 (w ht s v0 v1 d0 d1 r:Int) (k a b:Int)  : Rr26 w ht s v0 v1 d0 d1 r k a b:=by
 unfold Rr26
 dsimp -iota -proj -eta -zeta only
 simp only [M.Gd.kn_two,M.Gd.stE]
 simp [cI,asI]
 have hk:=@M.Gd.kn2_ok (M.Gd.mk w ht s v0 v1 d0 d1 r) a b
 by_cases e:M.Gd.kn2 (M.Gd.mk w ht s v0 v1 d0 d1 r) a b=0
 ·obtain ⟨h1,h2,h3⟩:=hk.1 e
  by_cases hc:1≤k∧k≤10
  ·simp [e,h1,h2,h3,hc]
   omega
  ·simp [e,h1,h2,h3,hc]
   try omega
 ·simp [e]
theorem s26:PureOK PP 26 e26:=by
 intro xs ps res h hp
 unfold e26 at h
 split at h
 ·rename_i w ht s v0 v1 d0 d1 r k a b
  cases h
  clear hp
  exact enterH (Hold.of (r26 w ht s v0 v1 d0 d1 r k a b) (br26 w ht s v0 v1 d0 d1 r k a b )) (.nil) (.cons (pureE_ok s63) (.cons (pureE_ok s67) (.cons (pureE_ok s68) (.nil)))) (k:=26) (by kernel_rfl) (by kernel_rfl) (fun _=>.nil)
 ·cases h
def e27:List SV→Option (List Prop × SV)
 | [.agg [.int .i64 w,.int .i64 ht,.int .i64 s,.int .i64 v0,.int .i64 v1,.int .i64 d0,.int .i64 d1,.int .i64 r],.int .i64 k,.int .i64 a,.int .i64 b]=>some ([],.tup [.agg [SI (if M.Gd.stE (M.Gd.mk w ht s v0 v1 d0 d1 r) k a b=0 then M.Gd.S0 (M.Gd.mk w ht s v0 v1 d0 d1 r) k a b else 0),SI (if M.Gd.stE (M.Gd.mk w ht s v0 v1 d0 d1 r) k a b=0 then M.Gd.S1 (M.Gd.mk w ht s v0 v1 d0 d1 r) k a b else 0)],SI (M.Gd.stE (M.Gd.mk w ht s v0 v1 d0 d1 r) k a b)])
 | _=>none
def lp40 (w ht s v0 v1 d0 d1 r:Int) (n:Nat) (sk sc sq sa sb:Nat→Int):LoopS where
 ι:=Nat
 β:=Int
 pre i:=i≤n∧n≤100000∧M.Gd.ok (M.Gd.mk w ht s v0 v1 d0 d1 r)
 μ i:=n-i
 next i _ _ _:=i+1
 out i:=M.fe (fun j=>M.Gd.srE (M.Gd.mk w ht s v0 v1 d0 d1 r) ((fun i=>M.Sc.mk (sk i) (sc i) (sq i) (sa i) (sb i)) j)) (n-i) i
 early q:=decide (q≠0)
 SA i:=[(2,.ptr 0 0),(16,.sl 5 n (fun j=>[SI (sk j),SI (sc j),SI (sq j),SI (sa j),SI (sb j)])),(17,SI n),(18,SI i)]
 SH _:=[(0,.cells [SI w,SI ht,SI s,SI v0,SI v1,SI d0,SI d1,SI r])]
 n0:=1
 NA _:=[]
 NH _:=[]
 n1:=0
 RA q:=[(4,SI q)]
 RH _:=[]
def Rq40 (w ht s v0 v1 d0 d1 r:Int) (n:Nat) (sk sc sq sa sb:Nat→Int) (i:Nat):Prop:=(fun (z12 z13:Int) (z7:M.Gd) (z10:Nat)=>(fun (z0:Nat) (z1:Nat→Nat→Int)=>(fun (z2 z3 z6:Bool) (z4:Prop)=>(fun (z5 z9:Bool) (z8 z11:Prop)=>(decide (z12<z13)=true→(0:Int)≤z12∧z12<z13∧z0<n∧(z4→z4)∧(z4→z4)∧(z4→z4)∧z11∧z11∧z11∧(z9=true→z6=true∧(2:Int)=z1 (n-i) i∧True)∧(z9=false→M.Gd.ok z7∧((!decide (M.Gd.cell z7 (sc z0)))=true→z6=true∧(4:Int)=z1 (n-i) i∧True)∧((!decide (M.Gd.cell z7 (sc z0)))=false→(z8→z8)∧(z8→z8)∧(z8→z8)∧(z3=false→z8)∧(z5=true→z6=true∧(3:Int)=z1 (n-i) i∧True)∧(z5=false→R64 (z12+(1:Int))∧(z10≤n∧n≤(100000:Nat)∧M.Gd.ok z7)∧n-z10<n-i∧z1 (n-z10) z10=z1 (n-i) i∧(n=n∧∀ (k:Nat),k<n→sk k=sk k∧sc k=sc k∧sq k=sq k∧sa k=sa k∧sb k=sb k)∧z13=z13∧z12+(1:Int)=(↑z10:Int)∧w=w∧ht=ht∧s=s∧v0=v0∧v1=v1∧d0=d0∧d1=d1∧r=r∧True))))∧(decide (z12<z13)=false→z6=false∧True)) (bif z3 then true else !decide ((0:Int)≤sa z0∧sa z0≤sb z0∧sb z0≤(1000000000:Int))) (bif z2 then !decide (sk z0=(3:Int)) else false) ((!z3)=true) (z2=true→z2=true)) (bif !decide (sk z0=(1:Int)) then !decide (sk z0=(2:Int)) else false) (!decide ((1:Int)≤sq z0∧sq z0≤(10:Int))) (decide (z1 (n-i) i≠(0:Int))) ((!decide (sk z0=(1:Int)))=true)) (Int.toNat z12) (M.fe (fun j=>M.Gd.srE z7 (M.Sc.mk (sk j) (sc j) (sq j) (sa j) (sb j))))) (↑i:Int) (↑n:Int) (M.Gd.mk w ht s v0 v1 d0 d1 r) (i+(1:Nat))
theorem q40 (w ht s v0 v1 d0 d1 r:Int) (n:Nat) (sk sc sq sa sb:Nat→Int) (i:Nat):VL true [] [(83,pureE e83),(67,pureE e67),(71,pureE e71)] YS.none Try.f40 0 [0,1,2,4,5,7,11,15,16,17,18,19,22,36,42] [] 0 (lp40 w ht s v0 v1 d0 d1 r n sk sc sq sa sb) (i)=Rq40 w ht s v0 v1 d0 d1 r n sk sc sq sa sb i:=by kernel_rfl
theorem peq40 (w ht s v0 v1 d0 d1 r:Int) (n:Nat) (sk sc sq sa sb:Nat→Int) (i:Nat):(lp40 w ht s v0 v1 d0 d1 r n sk sc sq sa sb).pre (i)=(i≤n∧n≤(100000:Nat)∧M.Gd.ok (M.Gd.mk w ht s v0 v1 d0 d1 r)):=by kernel_rfl
theorem bq40 (w ht s v0 v1 d0 d1 r:Int) (n:Nat) (sk sc sq sa sb:Nat→Int) (i:Nat) (hp:i≤n∧n≤(100000:Nat)∧M.Gd.ok (M.Gd.mk w ht s v0 v1 d0 d1 r)):Rq40 w ht s v0 v1 d0 d1 r n sk sc sq sa sb i:=by
 unfold Rq40
 dsimp -iota -proj -eta -zeta only
 obtain ⟨h1,h2,hk⟩:=id hp
 have r1:R64 ((i:Int)+1):=by unfold R64; omega
 have f1:=@M.fe_step (fun j=>M.Gd.srE (M.Gd.mk w ht s v0 v1 d0 d1 r) ((fun i=>M.Sc.mk (sk i) (sc i) (sq i) (sa i) (sb i)) j)) n i
 have f2:=@M.fe_stop (fun j=>M.Gd.srE (M.Gd.mk w ht s v0 v1 d0 d1 r) ((fun i=>M.Sc.mk (sk i) (sc i) (sq i) (sa i) (sb i)) j)) n i
 have f3:=@M.fe_end (fun j=>M.Gd.srE (M.Gd.mk w ht s v0 v1 d0 d1 r) ((fun i=>M.Sc.mk (sk i) (sc i) (sq i) (sa i) (sb i)) j)) n i
 simp only [Int.toNat_natCast,r1]
 generalize M.fe (fun j=>M.Gd.srE (M.Gd.mk w ht s v0 v1 d0 d1 r) ((fun i=>M.Sc.mk (sk i) (sc i) (sq i) (sa i) (sb i)) j)) (n-i) i=F at *
 generalize M.fe (fun j=>M.Gd.srE (M.Gd.mk w ht s v0 v1 d0 d1 r) ((fun i=>M.Sc.mk (sk i) (sc i) (sq i) (sa i) (sb i)) j)) (n-(i+1)) (i+1)=F' at *
 simp only [M.Gd.srE] at f1 f2
 by_cases hl:i<n
 ·have f1:=f1 hl
  have f2:=f2 hl
  clear f3
  by_cases c1:1≤sk i∧sk i≤3
  ·have c1':¬ ((¬ sk i=1∧¬ sk i=2)∧¬ sk i=3):=by omega
   by_cases c2:M.Gd.cell (M.Gd.mk w ht s v0 v1 d0 d1 r) (sc i)
   ·by_cases c3:1≤sq i∧sq i≤10
    ·by_cases c4:0≤sa i∧sa i≤sb i∧sb i≤1000000000
     ·simp only [c1,c2,c3,c4,not_true,if_false,and_self,true_implies] at f1
      subst f1
      simp [hl,hk,c1,c1',c2,c3,c4]
      omega
     ·simp [c1,c2,c3,c4] at f2
      simp [hl,hk,c1,c1',c2,c3,c4,f2]
    ·simp [c1,c2,c3] at f2
     simp [hl,hk,c1,c1',c2,c3,f2]
   ·simp [c1,c2] at f2
    simp [hl,hk,c1,c1',c2,f2]
  ·have c1':(¬ sk i=1∧¬ sk i=2)∧¬ sk i=3:=by omega
   simp [c1] at f2
   simp [hl,hk,c1,c1',f2]
 ·have f3:=f3 (by omega)
  subst f3
  simp [hl]
theorem t40 (w ht s v0 v1 d0 d1 r:Int) (n:Nat) (sk sc sq sa sb:Nat→Int) {F:Fence} (hF:FOK F) (Y:YEnv PP YS.none):∀ Q A H nx,loopT false Try.f40.ntmps 0 (lp40 w ht s v0 v1 d0 d1 r n sk sc sq sa sb) (fun _ _ _=>(0:Nat)) Q A H nx→WPS Y F Try.f40.ntmps 0 (.block 0 (blkAt 0 Try.f40)) Q A H nx :=
 loopW (E:=[]) (.nil) (O:=[(83,pureE e83),(67,pureE e67),(71,pureE e71)]) (.cons (pureE_ok s83) (.cons (pureE_ok s67) (.cons (pureE_ok s71) (.nil)))) (ck:=true) (L:=[0,1,2,4,5,7,11,15,16,17,18,19,22,36,42]) (f:=Try.f40) (m:=0) (id:=0) (l:=(lp40 w ht s v0 v1 d0 d1 r n sk sc sq sa sb)) (LI:=fun i=>[]) Y hF (by kernel_rfl) (fun _=>.nil) (by
  rintro i hp
  exact Hold.of (q40 w ht s v0 v1 d0 d1 r n sk sc sq sa sb i) (bq40 w ht s v0 v1 d0 d1 r n sk sc sq sa sb i ((peq40 w ht s v0 v1 d0 d1 r n sk sc sq sa sb i).mp hp)))
def e40:List SV→Option (List Prop × SV)
 | [.agg [.int .i64 w,.int .i64 ht,.int .i64 s,.int .i64 v0,.int .i64 v1,.int .i64 d0,.int .i64 d1,.int .i64 r],.sl 5 n g_1]=>some ([Row 5 n g_1,n≤100000],SI (M.Gd.csE (M.Gd.mk w ht s v0 v1 d0 d1 r) n (fun i=>M.Sc.mk ((cI g_1 0) i) ((cI g_1 1) i) ((cI g_1 2) i) ((cI g_1 3) i) ((cI g_1 4) i))))
 | _=>none
def Rr40 (w ht s v0 v1 d0 d1 r:Int) (n:Nat) (sk sc sq sa sb:Nat→Int):Prop:=(fun (z4:Bool) (z3:Int) (z0:M.Gd)=>(fun (z1 z2:Int)=>((!decide (M.Gd.er z0=z3))=true→M.Gd.er z0=z2)∧((!decide (M.Gd.er z0=z3))=false→(z4=true→(9:Int)=z2)∧(z4=false→((0:Nat)≤n∧n≤(100000:Nat)∧M.Gd.ok z0)∧((n=n∧∀ (k:Nat),k<n→sk k=sk k∧sc k=sc k∧sq k=sq k∧sa k=sa k∧sb k=sb k)∧(↑n:Int)=(↑n:Int)∧z3=(↑(0:Nat):Int)∧w=w∧ht=ht∧s=s∧v0=v0∧v1=v1∧d0=d0∧d1=d1∧r=r∧True)∧(decide (z1≠z3)=false→z3=z2)∧(decide (z1≠z3)=true→z1=z2)))) (M.fe (fun j=>M.Gd.srE z0 (M.Sc.mk (sk j) (sc j) (sq j) (sa j) (sb j))) (n-(0:Nat)) (0:Nat)) (M.Gd.csE z0 n fun i=>M.Sc.mk (sk i) (sc i) (sq i) (sa i) (sb i))) (decide ((256:Int)<(↑n:Int))) (0:Int) (M.Gd.mk w ht s v0 v1 d0 d1 r)
theorem r40 (w ht s v0 v1 d0 d1 r:Int) (n:Nat) (sk sc sq sa sb:Nat→Int):V true [] [(28,pureE e28)] Try.f40 [0,1,2,4,5,7,11,15,16,17,18,19,22,36,42] [(0,loopT false Try.f40.ntmps 0 (lp40 w ht s v0 v1 d0 d1 r n sk sc sq sa sb) (fun _ _ _=>(0:Nat)))] [.agg [SI w,SI ht,SI s,SI v0,SI v1,SI d0,SI d1,SI r],.sl 5 n (fun k=>[SI (sk k),SI (sc k),SI (sq k),SI (sa k),SI (sb k)])] (SI (M.Gd.csE (M.Gd.mk w ht s v0 v1 d0 d1 r) n (fun i=>M.Sc.mk (sk i) (sc i) (sq i) (sa i) (sb i))))=Rr40 w ht s v0 v1 d0 d1 r n sk sc sq sa sb:=by kernel_rfl
theorem br40 (w ht s v0 v1 d0 d1 r:Int) (n:Nat) (sk sc sq sa sb:Nat→Int) (hp:(n≤100000)∧AllP []):Rr40 w ht s v0 v1 d0 d1 r n sk sc sq sa sb:=by
 unfold Rr40
 dsimp -iota -proj -eta -zeta only
 obtain ⟨h1,-⟩:=id hp
 simp only [M.Gd.csE,M.Gd.srL,M.Gd.er,Nat.sub_zero]
 have r1:R64 (n:Int):=by unfold R64; omega
 generalize M.fe (fun j=>M.Gd.srE (M.Gd.mk w ht s v0 v1 d0 d1 r) ((fun i=>M.Sc.mk (sk i) (sc i) (sq i) (sa i) (sb i)) j)) n 0=F
 by_cases hk:M.Gd.ok (M.Gd.mk w ht s v0 v1 d0 d1 r)
 ·by_cases hn:256<n
  ·have hn':(256:Int)<n:=by omega
   simp [hk,hn,hn',r1]
  ·have hn':¬ (256:Int)<n:=by omega
   simp [hk,hn,hn',h1,r1]
   exact fun h=>h.symm
 ·simp [hk]
theorem s40:PureOK PP 40 e40:=by
 intro xs ps res h hp
 unfold e40 at h
 split at h
 ·rename_i w ht s v0 v1 d0 d1 r n g_1
  cases h
  simp only [AllP.cons] at hp
  obtain ⟨Hg_1,hp⟩:=hp
  exact Spec.args (enterH (Hold.of (r40 w ht s v0 v1 d0 d1 r n (cI g_1 0) (cI g_1 1) (cI g_1 2) (cI g_1 3) (cI g_1 4)) (br40 w ht s v0 v1 d0 d1 r n (cI g_1 0) (cI g_1 1) (cI g_1 2) (cI g_1 3) (cI g_1 4) hp)) (.nil) (.cons (pureE_ok s28) (.nil)) (k:=40) (by kernel_rfl) (by kernel_rfl) (fun Y=>.cons (by kernel_rfl) (t40 w ht s v0 v1 d0 d1 r n (cI g_1 0) (cI g_1 1) (cI g_1 2) (cI g_1 3) (cI g_1 4) FOK.wide Y) (.nil))) (.cons (.refl _) (.cons (.row Hg_1 fun _=>rfl) .nil))
 ·cases h
end Go.Proofs.Ytoncoofmijjgeaa.Sep
namespace Go.Proofs.Ytoncoofmijjgeaa.Sep
open Go
set_option linter.unusedVariables false
set_option linter.unusedSimpArgs false
def e109:List SV→Option (List Prop × SV)
 | [.agg [.int .i64 pk,.int .i64 ps,.int .i64 pa,.int .i64 pb,.int .i64 pc,.int .i64 pd]]=>some ([],.bool (decide (0≤pa∧pa≤pb∧pb≤1000000000)))
 | _=>none
def Rr109 (pk ps pa pb pc pd:Int):Prop:=decide ((0:Int)≤pa∧pa≤pb∧pb≤(1000000000:Int))=decide ((0:Int)≤pa∧pa≤pb∧pb≤(1000000000:Int))
theorem r109 (pk ps pa pb pc pd:Int):V true [] [(71,pureE e71)] Try.f109 [0,1,2] [] [.agg [SI pk,SI ps,SI pa,SI pb,SI pc,SI pd]] (.bool (decide (0≤pa∧pa≤pb∧pb≤1000000000)))=Rr109 pk ps pa pb pc pd:=by kernel_rfl
theorem br109 (pk ps pa pb pc pd:Int)  : Rr109 pk ps pa pb pc pd:=by
 unfold Rr109
 simp
theorem s109:PureOK PP 109 e109:=by
 intro xs ps res h hp
 unfold e109 at h
 split at h
 ·rename_i pk ps pa pb pc pd
  cases h
  clear hp
  exact enterH (Hold.of (r109 pk ps pa pb pc pd) (br109 pk ps pa pb pc pd )) (.nil) (.cons (pureE_ok s71) (.nil)) (k:=109) (by kernel_rfl) (by kernel_rfl) (fun _=>.nil)
 ·cases h
def e111:List SV→Option (List Prop × SV)
 | [.agg [.int .i64 pk,.int .i64 ps,.int .i64 pa,.int .i64 pb,.int .i64 pc,.int .i64 pd]]=>some ([],.bool (decide (-10000≤pc∧pc≤pd∧pd≤10000)))
 | _=>none
def Rr111 (pk ps pa pb pc pd:Int):Prop:=decide ((-10000:Int)≤pc∧pc≤pd∧pd≤(10000:Int))=decide ((-10000:Int)≤pc∧pc≤pd∧pd≤(10000:Int))
theorem r111 (pk ps pa pb pc pd:Int):V true [] [(71,pureE e71)] Try.f111 [0,1,2] [] [.agg [SI pk,SI ps,SI pa,SI pb,SI pc,SI pd]] (.bool (decide (-10000≤pc∧pc≤pd∧pd≤10000)))=Rr111 pk ps pa pb pc pd:=by kernel_rfl
theorem br111 (pk ps pa pb pc pd:Int)  : Rr111 pk ps pa pb pc pd:=by
 unfold Rr111
 simp
theorem s111:PureOK PP 111 e111:=by
 intro xs ps res h hp
 unfold e111 at h
 split at h
 ·rename_i pk ps pa pb pc pd
  cases h
  clear hp
  exact enterH (Hold.of (r111 pk ps pa pb pc pd) (br111 pk ps pa pb pc pd )) (.nil) (.cons (pureE_ok s71) (.nil)) (k:=111) (by kernel_rfl) (by kernel_rfl) (fun _=>.nil)
 ·cases h
def e87a:List SV→Option (List Prop × SV)
 | [.agg [.int .i64 w,.int .i64 ht,.int .i64 s,.int .i64 v0,.int .i64 v1,.int .i64 d0,.int .i64 d1,.int .i64 r,.sl 1 ns g_1,.int .i64 f],.agg [.int .i64 pk,.int .i64 ps,.int .i64 pa,.int .i64 pb,.int .i64 pc,.int .i64 pd]]=>some ([Row 1 ns g_1,pk=1,ns≤100000],SI (M.Pk.vE ns (M.Pk.mk pk ps pa pb pc pd)))
 | _=>none
def Rr87a (w ht s v0 v1 d0 d1 r:Int) (ns:Nat) (x:Nat→Int) (f:Int) (pk ps pa pb pc pd:Int):Prop:=(fun (z1 z2:Bool) (z0:Int)=>pk=(1:Int)∧((!true)=true→(2:Int)=z0)∧((!true)=false→R64 ((↑ns:Int)-(1:Int))∧(z2=true→(4:Int)=z0)∧(z2=false→(z1=true→(3:Int)=z0)∧(z1=false→(0:Int)=z0)))) (!decide ((0:Int)≤pa∧pa≤pb∧pb≤(1000000000:Int))) (!decide ((0:Int)≤ps∧ps≤(↑ns:Int)-(1:Int))) (M.Pk.vE ns (M.Pk.mk pk ps pa pb pc pd))
theorem r87a (w ht s v0 v1 d0 d1 r:Int) (ns:Nat) (x:Nat→Int) (f:Int) (pk ps pa pb pc pd:Int):V true [] [(99,pureE e99a),(109,pureE e109),(67,pureE e67)] Try.f87 [0,1,2,3,4,5,6,13,16,25] [] [.agg [SI w,SI ht,SI s,SI v0,SI v1,SI d0,SI d1,SI r,.sl 1 ns (fun k=>[SI (x k)]),SI f],.agg [SI pk,SI ps,SI pa,SI pb,SI pc,SI pd]] (SI (M.Pk.vE ns (M.Pk.mk pk ps pa pb pc pd)))=Rr87a w ht s v0 v1 d0 d1 r ns x f pk ps pa pb pc pd:=by kernel_rfl
theorem br87a (w ht s v0 v1 d0 d1 r:Int) (ns:Nat) (x:Nat→Int) (f:Int) (pk ps pa pb pc pd:Int) (hp:(pk=1)∧(ns≤100000)∧AllP []):Rr87a w ht s v0 v1 d0 d1 r ns x f pk ps pa pb pc pd:=by
 unfold Rr87a
 dsimp -iota -proj -eta -zeta only
 obtain ⟨rfl,h1,-⟩:=id hp
 have r1:R64 ((ns:Int)-1):=by unfold R64; omega
 unfold M.Pk.vE
 by_cases c1:0≤ps∧ps≤(ns:Int)-1 <;> by_cases c2:0≤pa∧pa≤pb∧pb≤1000000000 <;> simp [r1,c1,c2]
theorem s87a:PureOK PP 87 e87a:=by
 intro xs ps res h hp
 unfold e87a at h
 split at h
 ·rename_i w ht s v0 v1 d0 d1 r ns g_1 f pk ps pa pb pc pd
  cases h
  simp only [AllP.cons] at hp
  obtain ⟨Hg_1,hp⟩:=hp
  exact Spec.args (enterH (Hold.of (r87a w ht s v0 v1 d0 d1 r ns (cI g_1 0) f pk ps pa pb pc pd) (br87a w ht s v0 v1 d0 d1 r ns (cI g_1 0) f pk ps pa pb pc pd hp)) (.nil) (.cons (pureE_ok s99a) (.cons (pureE_ok s109) (.cons (pureE_ok s67) (.nil)))) (k:=87) (by kernel_rfl) (by kernel_rfl) (fun _=>.nil)) (.cons (.agg (.cons (.refl _) (.cons (.refl _) (.cons (.refl _) (.cons (.refl _) (.cons (.refl _) (.cons (.refl _) (.cons (.refl _) (.cons (.refl _) (.cons (.row Hg_1 fun _=>rfl) (.cons (.refl _) .nil))))))))))) (.cons (.refl _) .nil))
 ·cases h
def e87b:List SV→Option (List Prop × SV)
 | [.agg [.int .i64 w,.int .i64 ht,.int .i64 s,.int .i64 v0,.int .i64 v1,.int .i64 d0,.int .i64 d1,.int .i64 r,.sl 1 ns g_1,.int .i64 f],.agg [.int .i64 pk,.int .i64 ps,.int .i64 pa,.int .i64 pb,.int .i64 pc,.int .i64 pd]]=>some ([Row 1 ns g_1,pk=2,ns≤100000],SI (M.Pk.vE ns (M.Pk.mk pk ps pa pb pc pd)))
 | _=>none
def Rr87b (w ht s v0 v1 d0 d1 r:Int) (ns:Nat) (x:Nat→Int) (f:Int) (pk ps pa pb pc pd:Int):Prop:=(fun (z1 z2:Bool) (z0:Int)=>pk=(2:Int)∧((!true)=true→(2:Int)=z0)∧((!true)=false→R64 ((↑ns:Int)-(1:Int))∧(z2=true→(4:Int)=z0)∧(z2=false→(z1=true→(3:Int)=z0)∧(z1=false→(0:Int)=z0)))) (!decide ((- 10000:Int)≤pc∧pc≤pd∧pd≤(10000:Int))) (!decide ((0:Int)≤ps∧ps≤(↑ns:Int)-(1:Int))) (M.Pk.vE ns (M.Pk.mk pk ps pa pb pc pd))
theorem r87b (w ht s v0 v1 d0 d1 r:Int) (ns:Nat) (x:Nat→Int) (f:Int) (pk ps pa pb pc pd:Int):V true [] [(99,pureE e99b),(111,pureE e111),(67,pureE e67)] Try.f87 [0,1,2,3,4,5,6,13,16,25] [] [.agg [SI w,SI ht,SI s,SI v0,SI v1,SI d0,SI d1,SI r,.sl 1 ns (fun k=>[SI (x k)]),SI f],.agg [SI pk,SI ps,SI pa,SI pb,SI pc,SI pd]] (SI (M.Pk.vE ns (M.Pk.mk pk ps pa pb pc pd)))=Rr87b w ht s v0 v1 d0 d1 r ns x f pk ps pa pb pc pd:=by kernel_rfl
theorem br87b (w ht s v0 v1 d0 d1 r:Int) (ns:Nat) (x:Nat→Int) (f:Int) (pk ps pa pb pc pd:Int) (hp:(pk=2)∧(ns≤100000)∧AllP []):Rr87b w ht s v0 v1 d0 d1 r ns x f pk ps pa pb pc pd:=by
 unfold Rr87b
 dsimp -iota -proj -eta -zeta only
 obtain ⟨rfl,h1,-⟩:=id hp
 have r1:R64 ((ns:Int)-1):=by unfold R64; omega
 unfold M.Pk.vE
 by_cases c1:0≤ps∧ps≤(ns:Int)-1 <;> by_cases c2 : -10000≤pc∧pc≤pd∧pd≤10000 <;> simp [r1,c1,c2]
theorem s87b:PureOK PP 87 e87b:=by
 intro xs ps res h hp
 unfold e87b at h
 split at h
 ·rename_i w ht s v0 v1 d0 d1 r ns g_1 f pk ps pa pb pc pd
  cases h
  simp only [AllP.cons] at hp
  obtain ⟨Hg_1,hp⟩:=hp
  exact Spec.args (enterH (Hold.of (r87b w ht s v0 v1 d0 d1 r ns (cI g_1 0) f pk ps pa pb pc pd) (br87b w ht s v0 v1 d0 d1 r ns (cI g_1 0) f pk ps pa pb pc pd hp)) (.nil) (.cons (pureE_ok s99b) (.cons (pureE_ok s111) (.cons (pureE_ok s67) (.nil)))) (k:=87) (by kernel_rfl) (by kernel_rfl) (fun _=>.nil)) (.cons (.agg (.cons (.refl _) (.cons (.refl _) (.cons (.refl _) (.cons (.refl _) (.cons (.refl _) (.cons (.refl _) (.cons (.refl _) (.cons (.refl _) (.cons (.row Hg_1 fun _=>rfl) (.cons (.refl _) .nil))))))))))) (.cons (.refl _) .nil))
 ·cases h
def e87c:List SV→Option (List Prop × SV)
 | [.agg [.int .i64 w,.int .i64 ht,.int .i64 s,.int .i64 v0,.int .i64 v1,.int .i64 d0,.int .i64 d1,.int .i64 r,.sl 1 ns g_1,.int .i64 f],.agg [.int .i64 pk,.int .i64 ps,.int .i64 pa,.int .i64 pb,.int .i64 pc,.int .i64 pd]]=>some ([Row 1 ns g_1,pk=3,ns≤100000],SI (M.Pk.vE ns (M.Pk.mk pk ps pa pb pc pd)))
 | _=>none
def Rr87c (w ht s v0 v1 d0 d1 r:Int) (ns:Nat) (x:Nat→Int) (f:Int) (pk ps pa pb pc pd:Int):Prop:=(fun (z1 z2:Bool) (z0:Int)=>pk=(3:Int)∧((!true)=true→(2:Int)=z0)∧((!true)=false→R64 ((↑ns:Int)-(1:Int))∧(z2=true→(4:Int)=z0)∧(z2=false→(z1=true→(3:Int)=z0)∧(z1=false→(0:Int)=z0)))) (!decide ((0:Int)≤pa∧pa≤pb∧pb≤(1000000000:Int))) (!decide ((0:Int)≤ps∧ps≤(↑ns:Int)-(1:Int))) (M.Pk.vE ns (M.Pk.mk pk ps pa pb pc pd))
theorem r87c (w ht s v0 v1 d0 d1 r:Int) (ns:Nat) (x:Nat→Int) (f:Int) (pk ps pa pb pc pd:Int):V true [] [(99,pureE e99c),(109,pureE e109),(67,pureE e67)] Try.f87 [0,1,2,3,4,5,6,13,16,25] [] [.agg [SI w,SI ht,SI s,SI v0,SI v1,SI d0,SI d1,SI r,.sl 1 ns (fun k=>[SI (x k)]),SI f],.agg [SI pk,SI ps,SI pa,SI pb,SI pc,SI pd]] (SI (M.Pk.vE ns (M.Pk.mk pk ps pa pb pc pd)))=Rr87c w ht s v0 v1 d0 d1 r ns x f pk ps pa pb pc pd:=by kernel_rfl
theorem br87c (w ht s v0 v1 d0 d1 r:Int) (ns:Nat) (x:Nat→Int) (f:Int) (pk ps pa pb pc pd:Int) (hp:(pk=3)∧(ns≤100000)∧AllP []):Rr87c w ht s v0 v1 d0 d1 r ns x f pk ps pa pb pc pd:=by
 unfold Rr87c
 dsimp -iota -proj -eta -zeta only
 obtain ⟨rfl,h1,-⟩:=id hp
 have r1:R64 ((ns:Int)-1):=by unfold R64; omega
 unfold M.Pk.vE
 by_cases c1:0≤ps∧ps≤(ns:Int)-1 <;> by_cases c2:0≤pa∧pa≤pb∧pb≤1000000000 <;> simp [r1,c1,c2]
theorem s87c:PureOK PP 87 e87c:=by
 intro xs ps res h hp
 unfold e87c at h
 split at h
 ·rename_i w ht s v0 v1 d0 d1 r ns g_1 f pk ps pa pb pc pd
  cases h
  simp only [AllP.cons] at hp
  obtain ⟨Hg_1,hp⟩:=hp
  exact Spec.args (enterH (Hold.of (r87c w ht s v0 v1 d0 d1 r ns (cI g_1 0) f pk ps pa pb pc pd) (br87c w ht s v0 v1 d0 d1 r ns (cI g_1 0) f pk ps pa pb pc pd hp)) (.nil) (.cons (pureE_ok s99c) (.cons (pureE_ok s109) (.cons (pureE_ok s67) (.nil)))) (k:=87) (by kernel_rfl) (by kernel_rfl) (fun _=>.nil)) (.cons (.agg (.cons (.refl _) (.cons (.refl _) (.cons (.refl _) (.cons (.refl _) (.cons (.refl _) (.cons (.refl _) (.cons (.refl _) (.cons (.refl _) (.cons (.row Hg_1 fun _=>rfl) (.cons (.refl _) .nil))))))))))) (.cons (.refl _) .nil))
 ·cases h
def e87d:List SV→Option (List Prop × SV)
 | [.agg [.int .i64 w,.int .i64 ht,.int .i64 s,.int .i64 v0,.int .i64 v1,.int .i64 d0,.int .i64 d1,.int .i64 r,.sl 1 ns g_1,.int .i64 f],.agg [.int .i64 pk,.int .i64 ps,.int .i64 pa,.int .i64 pb,.int .i64 pc,.int .i64 pd]]=>some ([Row 1 ns g_1,¬ (1≤pk∧pk≤3),ns≤100000],SI (M.Pk.vE ns (M.Pk.mk pk ps pa pb pc pd)))
 | _=>none
def Rr87d (w ht s v0 v1 d0 d1 r:Int) (ns:Nat) (x:Nat→Int) (f:Int) (pk ps pa pb pc pd:Int):Prop:=(fun (z0:Bool) (z1:Int)=>¬ ((1:Int)≤pk∧pk≤(3:Int))∧((!false)=true→(2:Int)=z1)∧((!false)=false→R64 ((↑ns:Int)-(1:Int))∧(z0=true→(4:Int)=z1)∧(z0=false→False))) (!decide ((0:Int)≤ps∧ps≤(↑ns:Int)-(1:Int))) (M.Pk.vE ns (M.Pk.mk pk ps pa pb pc pd))
theorem r87d (w ht s v0 v1 d0 d1 r:Int) (ns:Nat) (x:Nat→Int) (f:Int) (pk ps pa pb pc pd:Int):V true [] [(99,pureE e99d),(67,pureE e67)] Try.f87 [0,1,2,3,4,5,6,13,16,25] [] [.agg [SI w,SI ht,SI s,SI v0,SI v1,SI d0,SI d1,SI r,.sl 1 ns (fun k=>[SI (x k)]),SI f],.agg [SI pk,SI ps,SI pa,SI pb,SI pc,SI pd]] (SI (M.Pk.vE ns (M.Pk.mk pk ps pa pb pc pd)))=Rr87d w ht s v0 v1 d0 d1 r ns x f pk ps pa pb pc pd:=by kernel_rfl
theorem br87d (w ht s v0 v1 d0 d1 r:Int) (ns:Nat) (x:Nat→Int) (f:Int) (pk ps pa pb pc pd:Int) (hp:(¬ (1≤pk∧pk≤3))∧(ns≤100000)∧AllP []):Rr87d w ht s v0 v1 d0 d1 r ns x f pk ps pa pb pc pd:=by
 unfold Rr87d
 dsimp -iota -proj -eta -zeta only
 obtain ⟨h0,h1,-⟩:=id hp
 have r1:R64 ((ns:Int)-1):=by unfold R64; omega
 unfold M.Pk.vE
 simp [h0]
theorem s87d:PureOK PP 87 e87d:=by
 intro xs ps res h hp
 unfold e87d at h
 split at h
 ·rename_i w ht s v0 v1 d0 d1 r ns g_1 f pk ps pa pb pc pd
  cases h
  simp only [AllP.cons] at hp
  obtain ⟨Hg_1,hp⟩:=hp
  exact Spec.args (enterH (Hold.of (r87d w ht s v0 v1 d0 d1 r ns (cI g_1 0) f pk ps pa pb pc pd) (br87d w ht s v0 v1 d0 d1 r ns (cI g_1 0) f pk ps pa pb pc pd hp)) (.nil) (.cons (pureE_ok s99d) (.cons (pureE_ok s67) (.nil))) (k:=87) (by kernel_rfl) (by kernel_rfl) (fun _=>.nil)) (.cons (.agg (.cons (.refl _) (.cons (.refl _) (.cons (.refl _) (.cons (.refl _) (.cons (.refl _) (.cons (.refl _) (.cons (.refl _) (.cons (.refl _) (.cons (.row Hg_1 fun _=>rfl) (.cons (.refl _) .nil))))))))))) (.cons (.refl _) .nil))
 ·cases h
end Go.Proofs.Ytoncoofmijjgeaa.Sep
