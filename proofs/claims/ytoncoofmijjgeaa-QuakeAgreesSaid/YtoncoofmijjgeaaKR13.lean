/-
  Texts of one seat, joined. No condition. (This text proves no statement by itself.)
-/
import Derived.Test.YtoncoofmijjgeaaKR10
import Derived.Test.YtoncoofmijjgeaaKN1
namespace Go.Proofs.Ytoncoofmijjgeaa.Sep
open Go
set_option linter.unusedVariables false
set_option linter.unusedSimpArgs false
def lp20 (m:Nat) (pk ps pa pb pc pd:Nat→Int):LoopS where
 ι:=Nat
 β:=Unit
 pre i:=i≤m∧m≤1000
 μ i:=m-i
 next i _ _ _:=i+1
 out _:=()
 early _:=false
 SA i:=[(0,.sl 6 m (fun j=>[SI (pk j),SI (ps j),SI (pa j),SI (pb j),SI (pc j),SI (pd j)])),(3,.vec 0 6 0 i),(4,SI i)]
 SH i:=[(0,.row 6 i (fun j=>[SI (pk j),SI (ps j),SI (pa j),SI (pb j),SI (pc j),SI (pd j)]))]
 n0:=1
 NA _:=[(3,.vec 0 6 0 m)]
 NH _:=[(0,.row 6 m (fun j=>[SI (pk j),SI (ps j),SI (pa j),SI (pb j),SI (pc j),SI (pd j)]))]
 n1:=1
 RA _:=[]
 RH _:=[]
def Rq20 (m:Nat) (pk ps pa pb pc pd:Nat→Int) (i:Nat):Prop:=(fun (z3:Int) (z2:Nat) (z1:Prop)=>(fun (z0:Nat)=>(decide (z3<(↑m:Int))=true→(0:Int)≤z3∧z3<(↑m:Int)∧z0<m∧(0:Nat)+(1:Nat)≤(1:Nat)∧(∀ (k:Nat),k<(1:Nat)→true=true)∧i≤i∧z2*(48:Nat)≤(140737488355328:Nat)∧R64 (z3+(1:Int))∧(z2≤m∧m≤(1000:Nat))∧m-z2<m-i∧()=()∧(m=m∧z1)∧(0:Nat)=(0:Nat)∧z2=z2∧z3+(1:Int)=(↑z2:Int)∧z2≤z2∧(∀ (k:Nat),k<z2→(bif decide (k<i) then pk k else pk z0)=pk k∧(bif decide (k<i) then ps k else ps z0)=ps k∧(bif decide (k<i) then pa k else pa z0)=pa k∧(bif decide (k<i) then pb k else pb z0)=pb k∧(bif decide (k<i) then pc k else pc z0)=pc k∧(bif decide (k<i) then pd k else pd z0)=pd k)∧True)∧(decide (z3<(↑m:Int))=false→false=false∧(0:Nat)=(0:Nat)∧i=m∧m≤i∧z1∧True)) (Int.toNat z3)) (↑i:Int) (i+(1:Nat)) (∀ (k:Nat),k<m→pk k=pk k∧ps k=ps k∧pa k=pa k∧pb k=pb k∧pc k=pc k∧pd k=pd k)
theorem q20 (m:Nat) (pk ps pa pb pc pd:Nat→Int) (i:Nat):VL true [] [] YS.none Try.f20 0 [0,2,3,4,8] [] 0 (lp20 m pk ps pa pb pc pd) (i)=Rq20 m pk ps pa pb pc pd i:=by kernel_rfl
theorem peq20 (m:Nat) (pk ps pa pb pc pd:Nat→Int) (i:Nat):(lp20 m pk ps pa pb pc pd).pre (i)=(i≤m∧m≤(1000:Nat)):=by kernel_rfl
theorem bq20 (m:Nat) (pk ps pa pb pc pd:Nat→Int) (i:Nat) (hp:i≤m∧m≤(1000:Nat)):Rq20 m pk ps pa pb pc pd i:=by
 unfold Rq20
 dsimp -iota -proj -eta -zeta only
 obtain ⟨h1,h2⟩:=id hp
 have r1:R64 ((i:Int)+1):=by unfold R64; omega
 by_cases hl:i<m
 ·have hl':(i:Int)<m:=by omega
  have e3:∀ (q:Nat→Int) k,k<i+1→(bif decide (k<i) then q k else q i)=q k:=fun q k hk2=>by
   by_cases d1:k<i
   ·simp [d1]
   ·have:k=i:=by omega
    subst this; simp
  simp [hl,hl',r1]
  repeat' apply And.intro
  all_goals first | omega | exact fun k hk2=>by simpa using e3 _ k hk2 | exact fun k hk2=>⟨by simpa using e3 _ k hk2,by simpa using e3 _ k hk2,by simpa using e3 _ k hk2,by simpa using e3 _ k hk2,by simpa using e3 _ k hk2,by simpa using e3 _ k hk2⟩
 ·have e:i=m:=by omega
  subst e
  simp
theorem t20 (m:Nat) (pk ps pa pb pc pd:Nat→Int) {F:Fence} (hF:FOK F) (Y:YEnv PP YS.none):∀ Q A H nx,loopT false Try.f20.ntmps 0 (lp20 m pk ps pa pb pc pd) (fun _ _ _=>(0:Nat)) Q A H nx→WPS Y F Try.f20.ntmps 0 (.block 0 (blkAt 0 Try.f20)) Q A H nx :=
 loopW (E:=[]) (.nil) (O:=[]) (.nil) (ck:=true) (L:=[0,2,3,4,8]) (f:=Try.f20) (m:=0) (id:=0) (l:=(lp20 m pk ps pa pb pc pd)) (LI:=fun i=>[]) Y hF (by kernel_rfl) (fun _=>.nil) (by
  rintro i hp
  exact Hold.of (q20 m pk ps pa pb pc pd i) (bq20 m pk ps pa pb pc pd i ((peq20 m pk ps pa pb pc pd i).mp hp)))
def e20:List SV→Option (List Prop × SV)
 | [.sl 6 m g_1]=>some ([Row 6 m g_1,m≤1000],.sl 6 m (fun j=>[SI ((cI g_1 0) j),SI ((cI g_1 1) j),SI ((cI g_1 2) j),SI ((cI g_1 3) j),SI ((cI g_1 4) j),SI ((cI g_1 5) j)]))
 | _=>none
def Rr20 (m:Nat) (pk ps pa pb pc pd:Nat→Int):Prop:=(fun (z0:Nat)=>(z0≤m∧m≤(1000:Nat))∧((m=m∧∀ (k:Nat),k<m→pk k=pk k∧ps k=ps k∧pa k=pa k∧pb k=pb k∧pc k=pc k∧pd k=pd k)∧z0=z0∧(0:Int)=(↑z0:Int)∧z0=z0∧True)∧(false=false→z0+m≤m∧m=m∧∀ (k:Nat),k<m→pk (z0+k)=pk k∧ps (z0+k)=ps k∧pa (z0+k)=pa k∧pb (z0+k)=pb k∧pc (z0+k)=pc k∧pd (z0+k)=pd k)∧(false=true→False)) (0:Nat)
theorem r20 (m:Nat) (pk ps pa pb pc pd:Nat→Int):V true [] [] Try.f20 [0,2,3,4,8] [(0,loopT false Try.f20.ntmps 0 (lp20 m pk ps pa pb pc pd) (fun _ _ _=>(0:Nat)))] [.sl 6 m (fun k=>[SI (pk k),SI (ps k),SI (pa k),SI (pb k),SI (pc k),SI (pd k)])] (.sl 6 m (fun j=>[SI (pk j),SI (ps j),SI (pa j),SI (pb j),SI (pc j),SI (pd j)]))=Rr20 m pk ps pa pb pc pd:=by kernel_rfl
theorem br20 (m:Nat) (pk ps pa pb pc pd:Nat→Int) (hp:(m≤1000)∧AllP []):Rr20 m pk ps pa pb pc pd:=by
 unfold Rr20
 dsimp -iota -proj -eta -zeta only
 obtain ⟨h1,-⟩:=id hp
 simp [h1]
theorem s20:PureOK PP 20 e20:=by
 intro xs ps res h hp
 unfold e20 at h
 split at h
 ·rename_i m g_1
  cases h
  simp only [AllP.cons] at hp
  obtain ⟨Hg_1,hp⟩:=hp
  exact Spec.args (enterH (Hold.of (r20 m (cI g_1 0) (cI g_1 1) (cI g_1 2) (cI g_1 3) (cI g_1 4) (cI g_1 5)) (br20 m (cI g_1 0) (cI g_1 1) (cI g_1 2) (cI g_1 3) (cI g_1 4) (cI g_1 5) hp)) (.nil) (.nil) (k:=20) (by kernel_rfl) (by kernel_rfl) (fun Y=>.cons (by kernel_rfl) (t20 m (cI g_1 0) (cI g_1 1) (cI g_1 2) (cI g_1 3) (cI g_1 4) (cI g_1 5) FOK.wide Y) (.nil))) (.cons (.row Hg_1 fun _=>rfl) .nil)
 ·cases h
def e3:List SV→Option (List Prop × SV)
 | [.agg [.int .i64 w,.int .i64 ht,.int .i64 s,.int .i64 v0,.int .i64 v1,.int .i64 d0,.int .i64 d1,.int .i64 r],.sl 1 ns g_1,.sl 5 n g_2,.sl 6 m g_3,.int .i64 f]=>some ([Row 1 ns g_1,Row 5 n g_2,Row 6 m g_3],.bool true)
 | _=>none
def Rr3 (w ht s v0 v1 d0 d1 r:Int) (ns:Nat) (x:Nat→Int) (n:Nat) (sk sc sq sa sb:Nat→Int) (m:Nat) (pk ps pa pb pc pd:Nat→Int) (f:Int):Prop:=(fun (z7:Bool) (z2:Int) (z8:Nat) (z1:Nat→M.Sc) (z4 z5 z10:Prop)=>(fun (z3:Nat)=>(fun (z0:Bool) (z6:Prop)=>(fun (z9:Bool) (z11:Prop)=>z10∧z5∧z4∧(z7=true→true=true)∧(z7=false→z10∧z5∧z4∧ns≤z8∧n≤z8∧m≤z8∧z4∧m≤(1000:Nat)∧z10∧z5∧z4∧ns≤z8∧n≤z8∧m≤z8∧z6∧z6∧z3≤z8∧z3≤z8∧z11∧z11∧z11∧(z9=true→z9=true)∧(bif z9 then true else false)=true)) (bif z0 then decide (z2=z2) else false) (z0=true→z0=true)) (M.same z3 z3 (fun i=>M.Sc.mk (z1 i).k (z1 i).c (z1 i).q (z1 i).a (z1 i).b) fun i=>M.Sc.mk (z1 i).k (z1 i).c (z1 i).q (z1 i).a (z1 i).b) (∀ (k:Nat),(k<z3)→(z1 k).k=(z1 k).k∧(z1 k).c=(z1 k).c∧(z1 k).q=(z1 k).q∧(z1 k).a=(z1 k).a∧(z1 k).b=(z1 k).b)) (if z2=(0:Int) then M.Gd.leN (M.Gd.mk w ht s v0 v1 d0 d1 r) x (fun i=>M.Sc.mk (sk i) (sc i) (sq i) (sa i) (sb i)) m (fun i=>M.Pk.mk (pk i) (ps i) (pa i) (pb i) (pc i) (pd i)) f n else (0:Nat))) (!decide (ns≤(70:Nat)∧n≤(300:Nat)∧m≤(70:Nat)∧n*m≤(3000:Nat))) (M.Gd.ckE (M.Gd.mk w ht s v0 v1 d0 d1 r) ns x n (fun i=>M.Sc.mk (sk i) (sc i) (sq i) (sa i) (sb i)) m (fun i=>M.Pk.mk (pk i) (ps i) (pa i) (pb i) (pc i) (pd i)) f) (100000:Nat) (M.Gd.leR (M.Gd.mk w ht s v0 v1 d0 d1 r) x (fun i=>M.Sc.mk (sk i) (sc i) (sq i) (sa i) (sb i)) m (fun i=>M.Pk.mk (pk i) (ps i) (pa i) (pb i) (pc i) (pd i)) f n) (∀ (k:Nat),k<m→pk k=pk k∧ps k=ps k∧pa k=pa k∧pb k=pb k∧pc k=pc k∧pd k=pd k) (∀ (k:Nat),k<n→sk k=sk k∧sc k=sc k∧sq k=sq k∧sa k=sa k∧sb k=sb k) (∀ (k:Nat),k<ns→x k=x k)
theorem r3 (w ht s v0 v1 d0 d1 r:Int) (ns:Nat) (x:Nat→Int) (n:Nat) (sk sc sq sa sb:Nat→Int) (m:Nat) (pk ps pa pb pc pd:Nat→Int) (f:Int):V true [] [(16,pureE e16),(17,pureE e17),(18,pureE e18),(19,pureE e19),(20,pureE e20),(21,pureE e21)] Try.f3 [0,1,2,3,4,5,10,11,12,13,14,19] [] [.agg [SI w,SI ht,SI s,SI v0,SI v1,SI d0,SI d1,SI r],.sl 1 ns (fun k=>[SI (x k)]),.sl 5 n (fun k=>[SI (sk k),SI (sc k),SI (sq k),SI (sa k),SI (sb k)]),.sl 6 m (fun k=>[SI (pk k),SI (ps k),SI (pa k),SI (pb k),SI (pc k),SI (pd k)]),SI f] (.bool true)=Rr3 w ht s v0 v1 d0 d1 r ns x n sk sc sq sa sb m pk ps pa pb pc pd f:=by kernel_rfl
end Go.Proofs.Ytoncoofmijjgeaa.Sep
namespace Go.Proofs.Ytoncoofmijjgeaa.M
open Go
set_option linter.unusedVariables false
set_option linter.unusedSimpArgs false
def agO (m : Nat) (r : Int) (z : Int × Int × Int) : Int := if r < 0 ∨ (m : Int) - z.2.2 < r then (m : Int) - z.2.2 else r
def agK (m : Nat) (r : Int) (L : List (Int × Int × Int)) (k : Nat) : Int := (L.take k).foldl (agO m) r
theorem agK_succ {m : Nat} {r : Int} {L : List (Int × Int × Int)} {k : Nat} (h : k < L.length) : agK m r L (k + 1) = agO m (agK m r L k) (ysR L k) := by
 unfold agK ysR
 have e : L.take (k + 1) = L.take k ++ [L.getD k (0, 0, 0)] := by
  rw [List.take_add_one]; simp [h]
 rw [e, List.foldl_append]
 rfl
theorem agK_len {m : Nat} {r : Int} {L : List (Int × Int × Int)} : agK m r L L.length = L.foldl (agO m) r := by unfold agK; rw [List.take_length]
theorem agF {m : Nat} : ∀ {L : List (Int × Int × Int)} {r : Int}, (∀ z ∈ L, 0 ≤ z.2.2 ∧ z.2.2 ≤ m) → -1 ≤ r → r ≤ m → (-1 ≤ L.foldl (agO m) r ∧ L.foldl (agO m) r ≤ m) ∧
  ∀ f : Int, 0 ≤ f → ((0 ≤ L.foldl (agO m) r ∧ L.foldl (agO m) r ≤ f) ↔ ((0 ≤ r ∧ r ≤ f) ∨ ∃ z ∈ L, (m : Int) - z.2.2 ≤ f))
 | [], r, _, h1, h2 => ⟨⟨h1, h2⟩, fun f hf => ⟨fun h => .inl h, fun h => h.elim id fun ⟨z, hz, _⟩ => absurd hz (by simp)⟩⟩
 | z :: L, r, hz, h1, h2 => by
  have hz0 := hz z (by simp)
  have hb : -1 ≤ agO m r z ∧ agO m r z ≤ m := by unfold agO; split <;> omega
  obtain ⟨i1, i2⟩ := agF (L := L) (r := agO m r z) (fun y hy => hz y (by simp [hy])) hb.1 hb.2
  refine ⟨i1, fun f hf => ?_⟩
  simp only [List.foldl_cons]
  rw [i2 f hf]
  have ho : (0 ≤ agO m r z ∧ agO m r z ≤ f) ↔ ((0 ≤ r ∧ r ≤ f) ∨ (m : Int) - z.2.2 ≤ f) := by unfold agO; split <;> omega
  rw [ho]
  constructor
  ·rintro ((h | h) | ⟨y, hy, h⟩)
   ·exact .inl h
   ·exact .inr ⟨z, by simp, h⟩
   ·exact .inr ⟨y, by simp [hy], h⟩
  ·rintro (h | ⟨y, hy, h⟩)
   ·exact .inl (.inl h)
   ·rcases List.mem_cons.1 hy with e | e
    ·subst e; exact .inl (.inr h)
    ·exact .inr ⟨y, e, h⟩
theorem Cov.some {c : Int → Int} {thr : Int} : ∀ {ys : List (Int × Int × Int)} {x y : Int}, Cov c x y ys → ((∃ z ∈ ys, thr ≤ z.2.2) ↔ ∃ t, x ≤ t ∧ t < y ∧ thr ≤ c t) ∧ x ≤ y
 | [], x, y, e => by
  cases e
  exact ⟨⟨fun ⟨z, hz, _⟩ => absurd hz (by simp), fun ⟨t, h1, h2, _⟩ => by omega⟩, Int.le_refl _⟩
 | (l, h, n) :: r, x, y, ⟨e1, e2, e3, e4⟩ => by
  obtain ⟨i1, i2⟩ := Cov.some (thr := thr) e4
  refine ⟨⟨?_, ?_⟩, by omega⟩
  ·rintro ⟨z, hz, h0⟩
   rcases List.mem_cons.1 hz with e | e
   ·subst e
    exact ⟨l, by omega, by omega, by rw [e3 l (Int.le_refl _) e2]; exact h0⟩
   ·obtain ⟨t, t1, t2, t3⟩ := i1.1 ⟨z, e, h0⟩
    exact ⟨t, by omega, t2, t3⟩
  ·rintro ⟨t, t1, t2, t3⟩
   by_cases ct : t ≤ h
   ·exact ⟨(l, h, n), by simp, by rw [← e3 t (by omega) ct]; exact t3⟩
   ·obtain ⟨z, hz, h0⟩ := i1.2 ⟨t, by omega, t2, t3⟩
    exact ⟨z, by simp [hz], h0⟩
theorem Cov.vals {c : Int → Int} {lo hi : Int} (hc : ∀ t, lo ≤ c t ∧ c t ≤ hi) : ∀ {ys : List (Int × Int × Int)} {x y : Int}, Cov c x y ys → ∀ z ∈ ys, lo ≤ z.2.2 ∧ z.2.2 ≤ hi
 | [], _, _, _, z, hz => absurd hz (by simp)
 | (l, h, n) :: r, x, y, ⟨e1, e2, e3, e4⟩, z, hz => by
  rcases List.mem_cons.1 hz with e | e
  ·subst e
   have := e3 l (Int.le_refl _) e2
   have := hc l
   simp only; omega
  ·exact Cov.vals hc e4 z e
theorem ag_one {g : Gd} {ns : Nat} {x : Nat → Int} {s : Sc} {m : Nat} {P : Nat → Pk} {r : Int} {ys : List (Int × Int × Int)} (hk : g.ok) (hx : g.all ns x) (hcl : g.cell s.c) (hP : ∀ i, i < m → (P i).Vd ns) (h : s.a ≤ s.b) (h0 : -1000000000 ≤ s.a) (h1 : s.b ≤ 1000000000)
  (hc : Cov (cntS (fun k => (rowL (g.alS x s P m) k).1) (fun k => (rowL (g.alS x s P m) k).2) (g.alS x s P m).length) s.a (s.b + 1) ys) (r1 : -1 ≤ r) (r2 : r ≤ m) :
  (-1 ≤ ys.foldl (agO m) r ∧ ys.foldl (agO m) r ≤ m) ∧ ∀ f : Int, 0 ≤ f → ((0 ≤ ys.foldl (agO m) r ∧ ys.foldl (agO m) r ≤ f) ↔ ((0 ≤ r ∧ r ≤ f) ∨ (g.lft x s m P f).1 = true)) := by
 have h2 := (hc.congr (c' := g.cnt x s m P) (fun t t1 t2 => Gd.alS_cnt (by omega) (by omega)) (by omega)).1
 have hb : ∀ t, 0 ≤ g.cnt x s m P t ∧ g.cnt x s m P t ≤ m := fun t => by
  obtain ⟨a1, a2, a3⟩ := Gd.agN_eq (g := g) (x := x) (s := s) (P := P) (t := t) m
  omega
 obtain ⟨b1, b2⟩ := agF (m := m) (r := r) (Cov.vals hb h2) r1 r2
 refine ⟨b1, fun f hf => ?_⟩
 rw [b2 f hf]
 have hl := Gd.lft_lf (f := f) hk hx hcl hP h h0 h1
 have hs := (Cov.some (thr := (m : Int) - f) h2).1
 have e : (∃ z ∈ ys, (m : Int) - z.2.2 ≤ f) ↔ (g.lft x s m P f).1 = true := by
  constructor
  ·rintro ⟨z, hz, hzf⟩
   obtain ⟨t, t1, t2, t3⟩ := hs.1 ⟨z, hz, by omega⟩
   exact (hl.2.2 t t1 (by omega) t3).1
  ·intro hf1
   obtain ⟨c1, c2, c3, c4, c5⟩ := hl.1 hf1
   obtain ⟨z, hz, hzf⟩ := hs.2 ⟨_, c1, by omega, c4⟩
   exact ⟨z, hz, by omega⟩
 rw [e]
end Go.Proofs.Ytoncoofmijjgeaa.M
namespace Go.Proofs.Ytoncoofmijjgeaa.M
namespace Gd
def agY (g:Gd) (x:Nat→Int) (s:Sc) (m:Nat) (P:Nat→Pk):List (Int × Int × Int):=stY s.a s.b (tuQ s.a s.b (fun k=>(g.alR x s P m k).1) (fun k=>(g.alR x s P m k).2) (g.aln x s P m)) (tlen s.a s.b (fun k=>(g.alR x s P m k).1) (fun k=>(g.alR x s P m k).2) (g.aln x s P m))
def agA (g:Gd) (x:Nat→Int) (S:Nat→Sc) (m:Nat) (P:Nat→Pk):Nat→Int
 | 0 => -1
 | i+1=>if (S i).k=1 then (g.agY x (S i) m P).foldl (agO m) (agA g x S m P i) else agA g x S m P i
theorem agA_stay {g:Gd} {x:Nat→Int} {S:Nat→Sc} {m:Nat} {P:Nat→Pk} {i:Nat} (h:¬ (S i).k=1):g.agA x S m P (i+1)=g.agA x S m P i:=by
 conv=>lhs; unfold agA
 rw [if_neg h]
theorem agA_step {g:Gd} {x:Nat→Int} {S:Nat→Sc} {m:Nat} {P:Nat→Pk} {i:Nat} (h:(S i).k=1):g.agA x S m P (i+1)=agK m (g.agA x S m P i) (g.agY x (S i) m P) (g.agY x (S i) m P).length:=by
 conv=>lhs; unfold agA
 rw [if_pos h,agK_len]
end Gd
namespace Gd
theorem agA_inv {g:Gd} {ns:Nat} {x:Nat→Int} {S:Nat→Sc} {n m:Nat} {P:Nat→Pk} (hk:g.ok) (hx:g.all ns x) (hs:∀ i,i<n→g.Sok (S i)) (hP:∀ i,i<m→(P i).Vd ns):∀ i,i≤n→(-1≤g.agA x S m P i∧g.agA x S m P i≤m)∧∀ f:Int,0≤f→((0≤g.agA x S m P i∧g.agA x S m P i≤f) ↔ ∃ j,j<i∧(S j).k=1∧(g.lft x (S j) m P f).1=true)
 | 0,_=>⟨⟨by unfold agA; omega,by unfold agA; omega⟩,fun f hf=>⟨fun h=>by unfold agA at h; omega,fun ⟨j,hj,_⟩=>by omega⟩⟩
 | i+1,hi=>by
  obtain ⟨i1,i2⟩:=agA_inv hk hx hs hP i (by omega)
  obtain ⟨-,z2,-,z4,z5,z6⟩:=hs i (by omega)
  by_cases c:(S i).k=1
  ·have e:g.agA x S m P (i+1)=(g.agY x (S i) m P).foldl (agO m) (g.agA x S m P i):=by
    conv=>lhs; unfold agA
    rw [if_pos c]
   have hc:=tuQ_cov (u:=fun k=>(g.alR x (S i) P m k).1) (v:=fun k=>(g.alR x (S i) P m k).2) (na:=g.aln x (S i) P m) z5
   obtain ⟨b1,b2⟩:=ag_one (g:=g) (x:=x) (s:=S i) (m:=m) (P:=P) (r:=g.agA x S m P i) (ys:=g.agY x (S i) m P) hk hx z2 hP z5 (by omega) z6 hc i1.1 i1.2
   rw [e]
   refine ⟨b1,fun f hf => ?_⟩
   rw [b2 f hf,i2 f hf]
   constructor
   ·rintro (⟨j,j1,j2,j3⟩ | h)
    ·exact ⟨j,by omega,j2,j3⟩
    ·exact ⟨i,by omega,c,h⟩
   ·rintro ⟨j,j1,j2,j3⟩
    by_cases d:j=i
    ·subst d; exact .inr j3
    ·exact .inl ⟨j,by omega,j2,j3⟩
  ·rw [agA_stay c]
   refine ⟨i1,fun f hf => ?_⟩
   rw [i2 f hf]
   constructor
   ·rintro ⟨j,j1,j2,j3⟩; exact ⟨j,by omega,j2,j3⟩
   ·rintro ⟨j,j1,j2,j3⟩
    by_cases d:j=i
    ·subst d; exact absurd j2 c
    ·exact ⟨j,by omega,j2,j3⟩
def agQ (g:Gd) (x:Nat→Int) (S:Nat→Sc) (m:Nat) (P:Nat→Pk) (f:Int) (i:Nat):Bool:=decide ((S i).k=1) && (g.lft x (S i) m P f).1
def agE (g:Gd) (x:Nat→Int) (S:Nat→Sc) (n m:Nat) (P:Nat→Pk) (f:Nat):Bool:=decide (0≤ixF (g.agQ x S m P f) n 0)
end Gd
theorem ixF_is {c:Nat→Bool} {r:Int} : ∀ {f i:Nat},(∀ k:Nat,i≤k→k<i+f→(c k=true↔0≤r∧r≤k))→(r<0∨((i:Int)≤r∧r<i+f)) → -1≤r→ixF c f i=r
 | 0,i,h,h1,h2=>by unfold ixF; omega
 | f+1,i,h,h1,h2=>by
  have hi:=h i (Nat.le_refl _) (by omega)
  unfold ixF
  split
  ·rename_i hc; have:=hi.1 hc; omega
  ·rename_i hc
   have hn:¬ (0≤r∧r≤(i:Int)):=fun g=>hc (hi.2 g)
   exact ixF_is (fun k k1 k2=>h k (by omega) (by omega)) (by omega) h2
theorem agree_eq {g:Gd} {ns:Nat} {x:Nat→Int} {S:Nat→Sc} {n m:Nat} {P:Nat→Pk} (hk:g.ok) (hx:g.all ns x) (hs:∀ i,i<n→g.Sok (S i)) (hP:∀ i,i<m→(P i).Vd ns):ixF (g.agE x S n m P) (m+1) 0=g.agA x S m P n:=by
 obtain ⟨h1,h2⟩:=Gd.agA_inv (g:=g) (x:=x) (S:=S) (m:=m) (P:=P) hk hx hs hP n (Nat.le_refl _)
 refine ixF_is (fun k k1 k2 => ?_) (by omega) h1.1
 rw [h2 k (by omega)]
 unfold Gd.agE
 rw [decide_eq_true_iff,ixF_neg]
 unfold Gd.agQ
 constructor
 ·rintro ⟨j,j1,j2,j3⟩
  simp only [Bool.and_eq_true,decide_eq_true_iff] at j3
  exact ⟨j,by omega,j3.1,j3.2⟩
 ·rintro ⟨j,j1,j2,j3⟩
  exact ⟨j,by omega,by omega,by simp [j2,j3]⟩
theorem cntS_bd {u v:Nat→Int} {t:Int} : ∀ n:Nat,0≤cntS u v n t∧cntS u v n t≤n
 | 0=>⟨Int.le_refl _,Int.le_refl _⟩
 | n+1=>by
  obtain ⟨h1,h2⟩:=cntS_bd (u:=u) (v:=v) (t:=t) n
  unfold cntS at *
  unfold sumN
  split <;> omega
theorem ys_val {a b:Int} {u v:Nat→Int} {na m k:Nat} (hab:a≤b) (hn:na≤m) (hk:k<stK a b (tuQ a b u v na) (tlen a b u v na)):0≤(ysR (stY a b (tuQ a b u v na) (tlen a b u v na)) k).2.2∧(ysR (stY a b (tuQ a b u v na) (tlen a b u v na)) k).2.2≤m:=by
 have hc:=Cov.vals (lo:=0) (hi:=na) (fun t=>cntS_bd na) (tuQ_cov (u:=u) (v:=v) (na:=na) hab)
 have hk2:k<(stY a b (tuQ a b u v na) (tlen a b u v na)).length:=hk
 have e:ysR (stY a b (tuQ a b u v na) (tlen a b u v na)) k=(stY a b (tuQ a b u v na) (tlen a b u v na))[k]:=by
  unfold ysR
  simp [List.getD,hk2]
 have:=hc _ (List.getElem_mem hk2)
 rw [e]
 omega
end Go.Proofs.Ytoncoofmijjgeaa.M
namespace Go.Proofs.Ytoncoofmijjgeaa.Sep
open Go
set_option linter.unusedVariables false
set_option linter.unusedSimpArgs false
def lp40w (w ht s v0 v1 d0 d1 r:Int) (n:Nat) (sk sc sq sa sb:Nat→Int):LoopS where
 ι:=Nat
 β:=Int
 pre i:=i≤n∧n≤100000∧M.Gd.ok (M.Gd.mk w ht s v0 v1 d0 d1 r)
 μ i:=n-i
 next i _ _ _:=i+1
 out i:=M.fe (fun j=>M.Gd.srE (M.Gd.mk w ht s v0 v1 d0 d1 r) ((fun i=>M.Sc.mk (sk i) (sc i) (sq i) (sa i) (sb i)) j)) (n-i) i
 early q:=decide (q≠0)
 SA i:=[(2,.ptr 0 0),(16,.sl 5 n (fun j=>[SI (sk j),SI (sc j),SI (sq j),SI (sa j),SI (sb j)])),(17,SI n),(18,SI i)]
 SH _:=[(0,.cells [SI w,SI ht,SI s,SI v0,SI v1,SI d0,SI d1,SI r])]
 n0:=1
 NA _:=[]
 NH _:=[]
 n1:=0
 RA q:=[(4,SI q)]
 RH _:=[]
def Rq40w (w ht s v0 v1 d0 d1 r:Int) (n:Nat) (sk sc sq sa sb:Nat→Int) (i:Nat):Prop:=(fun (z12 z13:Int) (z7:M.Gd) (z10:Nat)=>(fun (z0:Nat) (z1:Nat→Nat→Int)=>(fun (z2 z3 z6:Bool) (z4:Prop)=>(fun (z5 z9:Bool) (z8 z11:Prop)=>(decide (z12<z13)=true→(0:Int)≤z12∧z12<z13∧z0<n∧(z4→z4)∧(z4→z4)∧(z4→z4)∧z11∧z11∧z11∧(z9=true→z6=true∧(2:Int)=z1 (n-i) i∧True)∧(z9=false→M.Gd.ok z7∧((!decide (M.Gd.cell z7 (sc z0)))=true→z6=true∧(4:Int)=z1 (n-i) i∧True)∧((!decide (M.Gd.cell z7 (sc z0)))=false→(z8→z8)∧(z8→z8)∧(z8→z8)∧(z3=false→z8)∧(z5=true→z6=true∧(3:Int)=z1 (n-i) i∧True)∧(z5=false→R64 (z12+(1:Int))∧(z10≤n∧n≤(100000:Nat)∧M.Gd.ok z7)∧n-z10<n-i∧z1 (n-z10) z10=z1 (n-i) i∧(n=n∧∀ (k:Nat),k<n→sk k=sk k∧sc k=sc k∧sq k=sq k∧sa k=sa k∧sb k=sb k)∧z13=z13∧z12+(1:Int)=(↑z10:Int)∧w=w∧ht=ht∧s=s∧v0=v0∧v1=v1∧d0=d0∧d1=d1∧r=r∧True))))∧(decide (z12<z13)=false→z6=false∧True)) (bif z3 then true else !decide ((0:Int)≤sa z0∧sa z0≤sb z0∧sb z0≤(1000000000:Int))) (bif z2 then !decide (sk z0=(3:Int)) else false) ((!z3)=true) (z2=true→z2=true)) (bif !decide (sk z0=(1:Int)) then !decide (sk z0=(2:Int)) else false) (!decide ((1:Int)≤sq z0∧sq z0≤(10:Int))) (decide (z1 (n-i) i≠(0:Int))) ((!decide (sk z0=(1:Int)))=true)) (Int.toNat z12) (M.fe (fun j=>M.Gd.srE z7 (M.Sc.mk (sk j) (sc j) (sq j) (sa j) (sb j))))) (↑i:Int) (↑n:Int) (M.Gd.mk w ht s v0 v1 d0 d1 r) (i+(1:Nat))
theorem q40w (w ht s v0 v1 d0 d1 r:Int) (n:Nat) (sk sc sq sa sb:Nat→Int) (i:Nat):VL true [] [(83,pureE e83),(67,pureE e67),(71,pureE e71)] YS.none Try.f40 0 [0,1,2,4,5,7,11,15,16,17,18,19,22,36,42] [] 0 (lp40w w ht s v0 v1 d0 d1 r n sk sc sq sa sb) (i)=Rq40w w ht s v0 v1 d0 d1 r n sk sc sq sa sb i:=by kernel_rfl
theorem peq40w (w ht s v0 v1 d0 d1 r:Int) (n:Nat) (sk sc sq sa sb:Nat→Int) (i:Nat):(lp40w w ht s v0 v1 d0 d1 r n sk sc sq sa sb).pre (i)=(i≤n∧n≤(100000:Nat)∧M.Gd.ok (M.Gd.mk w ht s v0 v1 d0 d1 r)):=by kernel_rfl
theorem bq40w (w ht s v0 v1 d0 d1 r:Int) (n:Nat) (sk sc sq sa sb:Nat→Int) (i:Nat) (hp:i≤n∧n≤(100000:Nat)∧M.Gd.ok (M.Gd.mk w ht s v0 v1 d0 d1 r)):Rq40w w ht s v0 v1 d0 d1 r n sk sc sq sa sb i:=by
 unfold Rq40w
 dsimp -iota -proj -eta -zeta only
 obtain ⟨h1,h2,hk⟩:=id hp
 have r1:R64 ((i:Int)+1):=by unfold R64; omega
 have f1:=@M.fe_step (fun j=>M.Gd.srE (M.Gd.mk w ht s v0 v1 d0 d1 r) ((fun i=>M.Sc.mk (sk i) (sc i) (sq i) (sa i) (sb i)) j)) n i
 have f2:=@M.fe_stop (fun j=>M.Gd.srE (M.Gd.mk w ht s v0 v1 d0 d1 r) ((fun i=>M.Sc.mk (sk i) (sc i) (sq i) (sa i) (sb i)) j)) n i
 have f3:=@M.fe_end (fun j=>M.Gd.srE (M.Gd.mk w ht s v0 v1 d0 d1 r) ((fun i=>M.Sc.mk (sk i) (sc i) (sq i) (sa i) (sb i)) j)) n i
 simp only [Int.toNat_natCast,r1]
 generalize M.fe (fun j=>M.Gd.srE (M.Gd.mk w ht s v0 v1 d0 d1 r) ((fun i=>M.Sc.mk (sk i) (sc i) (sq i) (sa i) (sb i)) j)) (n-i) i=F at *
 generalize M.fe (fun j=>M.Gd.srE (M.Gd.mk w ht s v0 v1 d0 d1 r) ((fun i=>M.Sc.mk (sk i) (sc i) (sq i) (sa i) (sb i)) j)) (n-(i+1)) (i+1)=F' at *
 simp only [M.Gd.srE] at f1 f2
 by_cases hl:i<n
 ·have f1:=f1 hl
  have f2:=f2 hl
  clear f3
  by_cases c1:1≤sk i∧sk i≤3
  ·have c1':¬ ((¬ sk i=1∧¬ sk i=2)∧¬ sk i=3):=by omega
   by_cases c2:M.Gd.cell (M.Gd.mk w ht s v0 v1 d0 d1 r) (sc i)
   ·by_cases c3:1≤sq i∧sq i≤10
    ·by_cases c4:0≤sa i∧sa i≤sb i∧sb i≤1000000000
     ·simp only [c1,c2,c3,c4,not_true,if_false,and_self,true_implies] at f1
      subst f1
      simp [hl,hk,c1,c1',c2,c3,c4]
      omega
     ·simp [c1,c2,c3,c4] at f2
      simp [hl,hk,c1,c1',c2,c3,c4,f2]
    ·simp [c1,c2,c3] at f2
     simp [hl,hk,c1,c1',c2,c3,f2]
   ·simp [c1,c2] at f2
    simp [hl,hk,c1,c1',c2,f2]
  ·have c1':(¬ sk i=1∧¬ sk i=2)∧¬ sk i=3:=by omega
   simp [c1] at f2
   simp [hl,hk,c1,c1',f2]
 ·have f3:=f3 (by omega)
  subst f3
  simp [hl]
theorem t40w (w ht s v0 v1 d0 d1 r:Int) (n:Nat) (sk sc sq sa sb:Nat→Int) {F:Fence} (hF:FOK F) (Y:YEnv PP YS.none):∀ Q A H nx,loopT false Try.f40.ntmps 0 (lp40w w ht s v0 v1 d0 d1 r n sk sc sq sa sb) (fun _ _ _=>(0:Nat)) Q A H nx→WPS Y F Try.f40.ntmps 0 (.block 0 (blkAt 0 Try.f40)) Q A H nx :=
 loopW (E:=[]) (.nil) (O:=[(83,pureE e83),(67,pureE e67),(71,pureE e71)]) (.cons (pureE_ok s83) (.cons (pureE_ok s67) (.cons (pureE_ok s71) (.nil)))) (ck:=true) (L:=[0,1,2,4,5,7,11,15,16,17,18,19,22,36,42]) (f:=Try.f40) (m:=0) (id:=0) (l:=(lp40w w ht s v0 v1 d0 d1 r n sk sc sq sa sb)) (LI:=fun i=>[]) Y hF (by kernel_rfl) (fun _=>.nil) (by
  rintro i hp
  exact Hold.of (q40w w ht s v0 v1 d0 d1 r n sk sc sq sa sb i) (bq40w w ht s v0 v1 d0 d1 r n sk sc sq sa sb i ((peq40w w ht s v0 v1 d0 d1 r n sk sc sq sa sb i).mp hp)))
def e40w:List SV→Option (List Prop × SV)
 | [.agg [.int .i64 w,.int .i64 ht,.int .i64 s,.int .i64 v0,.int .i64 v1,.int .i64 d0,.int .i64 d1,.int .i64 r],.sl 5 n g_1]=>some ([Row 5 n g_1,n≤9223372036854775807],SI (M.Gd.csE (M.Gd.mk w ht s v0 v1 d0 d1 r) n (fun i=>M.Sc.mk ((cI g_1 0) i) ((cI g_1 1) i) ((cI g_1 2) i) ((cI g_1 3) i) ((cI g_1 4) i))))
 | _=>none
def Rr40w (w ht s v0 v1 d0 d1 r:Int) (n:Nat) (sk sc sq sa sb:Nat→Int):Prop:=(fun (z4:Bool) (z3:Int) (z0:M.Gd)=>(fun (z1 z2:Int)=>((!decide (M.Gd.er z0=z3))=true→M.Gd.er z0=z2)∧((!decide (M.Gd.er z0=z3))=false→(z4=true→(9:Int)=z2)∧(z4=false→((0:Nat)≤n∧n≤(100000:Nat)∧M.Gd.ok z0)∧((n=n∧∀ (k:Nat),k<n→sk k=sk k∧sc k=sc k∧sq k=sq k∧sa k=sa k∧sb k=sb k)∧(↑n:Int)=(↑n:Int)∧z3=(↑(0:Nat):Int)∧w=w∧ht=ht∧s=s∧v0=v0∧v1=v1∧d0=d0∧d1=d1∧r=r∧True)∧(decide (z1≠z3)=false→z3=z2)∧(decide (z1≠z3)=true→z1=z2)))) (M.fe (fun j=>M.Gd.srE z0 (M.Sc.mk (sk j) (sc j) (sq j) (sa j) (sb j))) (n-(0:Nat)) (0:Nat)) (M.Gd.csE z0 n fun i=>M.Sc.mk (sk i) (sc i) (sq i) (sa i) (sb i))) (decide ((256:Int)<(↑n:Int))) (0:Int) (M.Gd.mk w ht s v0 v1 d0 d1 r)
theorem r40w (w ht s v0 v1 d0 d1 r:Int) (n:Nat) (sk sc sq sa sb:Nat→Int):V true [] [(28,pureE e28)] Try.f40 [0,1,2,4,5,7,11,15,16,17,18,19,22,36,42] [(0,loopT false Try.f40.ntmps 0 (lp40w w ht s v0 v1 d0 d1 r n sk sc sq sa sb) (fun _ _ _=>(0:Nat)))] [.agg [SI w,SI ht,SI s,SI v0,SI v1,SI d0,SI d1,SI r],.sl 5 n (fun k=>[SI (sk k),SI (sc k),SI (sq k),SI (sa k),SI (sb k)])] (SI (M.Gd.csE (M.Gd.mk w ht s v0 v1 d0 d1 r) n (fun i=>M.Sc.mk (sk i) (sc i) (sq i) (sa i) (sb i))))=Rr40w w ht s v0 v1 d0 d1 r n sk sc sq sa sb:=by kernel_rfl
theorem br40w (w ht s v0 v1 d0 d1 r:Int) (n:Nat) (sk sc sq sa sb:Nat→Int) (hp:(n≤9223372036854775807)∧AllP []):Rr40w w ht s v0 v1 d0 d1 r n sk sc sq sa sb:=by
 unfold Rr40w
 dsimp -iota -proj -eta -zeta only
 obtain ⟨h1,-⟩:=id hp
 simp only [M.Gd.csE,M.Gd.srL,M.Gd.er,Nat.sub_zero]
 have r1:R64 (n:Int):=by unfold R64; omega
 generalize M.fe (fun j=>M.Gd.srE (M.Gd.mk w ht s v0 v1 d0 d1 r) ((fun i=>M.Sc.mk (sk i) (sc i) (sq i) (sa i) (sb i)) j)) n 0=F
 by_cases hk:M.Gd.ok (M.Gd.mk w ht s v0 v1 d0 d1 r)
 ·by_cases hn:256<n
  ·have hn':(256:Int)<n:=by omega
   simp [hk,hn,hn',r1]
  ·have hn':¬ (256:Int)<n:=by omega
   have h1:n≤100000:=by omega
   simp [hk,hn,hn',h1,r1]
   exact fun h=>h.symm
 ·simp [hk]
theorem s40w:PureOK PP 40 e40w:=by
 intro xs ps res h hp
 unfold e40w at h
 split at h
 ·rename_i w ht s v0 v1 d0 d1 r n g_1
  cases h
  simp only [AllP.cons] at hp
  obtain ⟨Hg_1,hp⟩:=hp
  exact Spec.args (enterH (Hold.of (r40w w ht s v0 v1 d0 d1 r n (cI g_1 0) (cI g_1 1) (cI g_1 2) (cI g_1 3) (cI g_1 4)) (br40w w ht s v0 v1 d0 d1 r n (cI g_1 0) (cI g_1 1) (cI g_1 2) (cI g_1 3) (cI g_1 4) hp)) (.nil) (.cons (pureE_ok s28) (.nil)) (k:=40) (by kernel_rfl) (by kernel_rfl) (fun Y=>.cons (by kernel_rfl) (t40w w ht s v0 v1 d0 d1 r n (cI g_1 0) (cI g_1 1) (cI g_1 2) (cI g_1 3) (cI g_1 4) FOK.wide Y) (.nil))) (.cons (.refl _) (.cons (.row Hg_1 fun _=>rfl) .nil))
 ·cases h
def lp84w (w ht s v0 v1 d0 d1 r:Int) (n:Nat) (sk sc sq sa sb:Nat→Int):LoopS where
 ι:=Nat
 β:=Int
 pre i:=i≤n∧n≤100000∧M.Gd.ok (M.Gd.mk w ht s v0 v1 d0 d1 r)
 μ i:=n-i
 next i _ _ _:=i+1
 out i:=M.fe (fun j=>M.Gd.srE (M.Gd.mk w ht s v0 v1 d0 d1 r) ((fun i=>M.Sc.mk (sk i) (sc i) (sq i) (sa i) (sb i)) j)) (n-i) i
 early q:=decide (q≠0)
 SA i:=[(1,.sl 5 n (fun j=>[SI (sk j),SI (sc j),SI (sq j),SI (sa j),SI (sb j)])),(2,.ptr 0 0),(5,SI i)]
 SH _:=[(0,.cells [SI w,SI ht,SI s,SI v0,SI v1,SI d0,SI d1,SI r])]
 n0:=1
 NA _:=[]
 NH _:=[]
 n1:=0
 RA q:=[(4,SI q)]
 RH _:=[]
def Rq84w (w ht s v0 v1 d0 d1 r:Int) (n:Nat) (sk sc sq sa sb:Nat→Int) (i:Nat):Prop:=(fun (z4 z10:Int) (z7:M.Gd) (z9:Nat)=>(fun (z2:Nat) (z1:Nat→Nat→Int) (z12:Prop)=>(fun (z0 z6 z8:Bool)=>(fun (z5:Bool) (z3:Prop)=>(fun (z11:Prop)=>(decide (z4<z10)=true→z12∧z4<z10∧z2<n∧(z8=true→z6=true∧(2:Int)=z1 (n-i) i∧True)∧(z8=false→z12∧z4<z10∧z2<n∧M.Gd.ok z7∧((!decide (M.Gd.cell z7 (sc z2)))=true→z6=true∧(4:Int)=z1 (n-i) i∧True)∧((!decide (M.Gd.cell z7 (sc z2)))=false→z12∧z4<z10∧z2<n∧z11∧z11∧(z3→z12)∧(z3→z4<z10)∧z11∧z11∧(z3→z2<n)∧z11∧z11∧(z0=false→z3)∧(z5=true→z6=true∧(3:Int)=z1 (n-i) i∧True)∧(z5=false→R64 (z4+(1:Int))∧(z9≤n∧n≤(100000:Nat)∧M.Gd.ok z7)∧n-z9<n-i∧z1 (n-z9) z9=z1 (n-i) i∧(n=n∧∀ (k:Nat),k<n→sk k=sk k∧sc k=sc k∧sq k=sq k∧sa k=sa k∧sb k=sb k)∧z4+(1:Int)=(↑z9:Int)∧w=w∧ht=ht∧s=s∧v0=v0∧v1=v1∧d0=d0∧d1=d1∧r=r∧True))))∧(decide (z4<z10)=false→z6=false∧True)) (z3→z3)) (bif z0 then true else !decide ((0:Int)≤sa z2∧sa z2≤sb z2∧sb z2≤(1000000000:Int))) ((!z0)=true)) (!decide ((1:Int)≤sq z2∧sq z2≤(10:Int))) (decide (z1 (n-i) i≠(0:Int))) (!decide ((1:Int)≤sk z2∧sk z2≤(3:Int)))) (Int.toNat z4) (M.fe (fun j=>M.Gd.srE z7 (M.Sc.mk (sk j) (sc j) (sq j) (sa j) (sb j)))) ((0:Int)≤z4)) (↑i:Int) (↑n:Int) (M.Gd.mk w ht s v0 v1 d0 d1 r) (i+(1:Nat))
theorem q84w (w ht s v0 v1 d0 d1 r:Int) (n:Nat) (sk sc sq sa sb:Nat→Int) (i:Nat):VL true [] [(65,pureE e65),(69,pureE e69),(72,pureE e72)] YS.none Try.f84 0 [0,1,2,4,5,8,12,21,29,45] [] 0 (lp84w w ht s v0 v1 d0 d1 r n sk sc sq sa sb) (i)=Rq84w w ht s v0 v1 d0 d1 r n sk sc sq sa sb i:=by kernel_rfl
theorem peq84w (w ht s v0 v1 d0 d1 r:Int) (n:Nat) (sk sc sq sa sb:Nat→Int) (i:Nat):(lp84w w ht s v0 v1 d0 d1 r n sk sc sq sa sb).pre (i)=(i≤n∧n≤(100000:Nat)∧M.Gd.ok (M.Gd.mk w ht s v0 v1 d0 d1 r)):=by kernel_rfl
theorem bq84w (w ht s v0 v1 d0 d1 r:Int) (n:Nat) (sk sc sq sa sb:Nat→Int) (i:Nat) (hp:i≤n∧n≤(100000:Nat)∧M.Gd.ok (M.Gd.mk w ht s v0 v1 d0 d1 r)):Rq84w w ht s v0 v1 d0 d1 r n sk sc sq sa sb i:=by
 unfold Rq84w
 dsimp -iota -proj -eta -zeta only
 obtain ⟨h1,h2,hk⟩:=id hp
 have r1:R64 ((i:Int)+1):=by unfold R64; omega
 have f1:=@M.fe_step (fun j=>M.Gd.srE (M.Gd.mk w ht s v0 v1 d0 d1 r) ((fun i=>M.Sc.mk (sk i) (sc i) (sq i) (sa i) (sb i)) j)) n i
 have f2:=@M.fe_stop (fun j=>M.Gd.srE (M.Gd.mk w ht s v0 v1 d0 d1 r) ((fun i=>M.Sc.mk (sk i) (sc i) (sq i) (sa i) (sb i)) j)) n i
 have f3:=@M.fe_end (fun j=>M.Gd.srE (M.Gd.mk w ht s v0 v1 d0 d1 r) ((fun i=>M.Sc.mk (sk i) (sc i) (sq i) (sa i) (sb i)) j)) n i
 simp only [Int.toNat_natCast,r1]
 generalize M.fe (fun j=>M.Gd.srE (M.Gd.mk w ht s v0 v1 d0 d1 r) ((fun i=>M.Sc.mk (sk i) (sc i) (sq i) (sa i) (sb i)) j)) (n-i) i=F at *
 generalize M.fe (fun j=>M.Gd.srE (M.Gd.mk w ht s v0 v1 d0 d1 r) ((fun i=>M.Sc.mk (sk i) (sc i) (sq i) (sa i) (sb i)) j)) (n-(i+1)) (i+1)=F' at *
 simp only [M.Gd.srE] at f1 f2
 by_cases hl:i<n
 ·have f1:=f1 hl
  have f2:=f2 hl
  clear f3
  by_cases c1:1≤sk i∧sk i≤3
  ·have c1':¬ ((¬ sk i=1∧¬ sk i=2)∧¬ sk i=3):=by omega
   by_cases c2:M.Gd.cell (M.Gd.mk w ht s v0 v1 d0 d1 r) (sc i)
   ·by_cases c3:1≤sq i∧sq i≤10
    ·by_cases c4:0≤sa i∧sa i≤sb i∧sb i≤1000000000
     ·simp only [c1,c2,c3,c4,not_true,if_false,and_self,true_implies] at f1
      subst f1
      simp [hl,hk,c1,c1',c2,c3,c4]
      omega
     ·simp [c1,c2,c3,c4] at f2
      simp [hl,hk,c1,c1',c2,c3,c4,f2]
    ·simp [c1,c2,c3] at f2
     simp [hl,hk,c1,c1',c2,c3,f2]
   ·simp [c1,c2] at f2
    simp [hl,hk,c1,c1',c2,f2]
  ·have c1':(¬ sk i=1∧¬ sk i=2)∧¬ sk i=3:=by omega
   simp [c1] at f2
   simp [hl,hk,c1,c1',f2]
 ·have f3:=f3 (by omega)
  subst f3
  simp [hl]
theorem t84w (w ht s v0 v1 d0 d1 r:Int) (n:Nat) (sk sc sq sa sb:Nat→Int) {F:Fence} (hF:FOK F) (Y:YEnv PP YS.none):∀ Q A H nx,loopT false Try.f84.ntmps 0 (lp84w w ht s v0 v1 d0 d1 r n sk sc sq sa sb) (fun _ _ _=>(0:Nat)) Q A H nx→WPS Y F Try.f84.ntmps 0 (.block 0 (blkAt 0 Try.f84)) Q A H nx :=
 loopW (E:=[]) (.nil) (O:=[(65,pureE e65),(69,pureE e69),(72,pureE e72)]) (.cons (pureE_ok s65) (.cons (pureE_ok s69) (.cons (pureE_ok s72) (.nil)))) (ck:=true) (L:=[0,1,2,4,5,8,12,21,29,45]) (f:=Try.f84) (m:=0) (id:=0) (l:=(lp84w w ht s v0 v1 d0 d1 r n sk sc sq sa sb)) (LI:=fun i=>[]) Y hF (by kernel_rfl) (fun _=>.nil) (by
  rintro i hp
  exact Hold.of (q84w w ht s v0 v1 d0 d1 r n sk sc sq sa sb i) (bq84w w ht s v0 v1 d0 d1 r n sk sc sq sa sb i ((peq84w w ht s v0 v1 d0 d1 r n sk sc sq sa sb i).mp hp)))
def e84w:List SV→Option (List Prop × SV)
 | [.agg [.int .i64 w,.int .i64 ht,.int .i64 s,.int .i64 v0,.int .i64 v1,.int .i64 d0,.int .i64 d1,.int .i64 r],.sl 5 n g_1]=>some ([Row 5 n g_1,n≤9223372036854775807,M.Gd.ok (M.Gd.mk w ht s v0 v1 d0 d1 r)],SI (M.Gd.srL (M.Gd.mk w ht s v0 v1 d0 d1 r) n (fun i=>M.Sc.mk ((cI g_1 0) i) ((cI g_1 1) i) ((cI g_1 2) i) ((cI g_1 3) i) ((cI g_1 4) i))))
 | _=>none
def Rr84w (w ht s v0 v1 d0 d1 r:Int) (n:Nat) (sk sc sq sa sb:Nat→Int):Prop:=(fun (z2:Bool) (z0 z1:Int)=>(z2=true→(9:Int)=z1)∧(z2=false→((0:Nat)≤n∧n≤(100000:Nat)∧M.Gd.ok (M.Gd.mk w ht s v0 v1 d0 d1 r))∧((n=n∧∀ (k:Nat),k<n→sk k=sk k∧sc k=sc k∧sq k=sq k∧sa k=sa k∧sb k=sb k)∧(0:Int)=(↑(0:Nat):Int)∧w=w∧ht=ht∧s=s∧v0=v0∧v1=v1∧d0=d0∧d1=d1∧r=r∧True)∧(decide (z0≠(0:Int))=false→(0:Int)=z1)∧(decide (z0≠(0:Int))=true→z0=z1))) (decide ((256:Int)<(↑n:Int))) (M.fe (fun j=>M.Gd.srE (M.Gd.mk w ht s v0 v1 d0 d1 r) (M.Sc.mk (sk j) (sc j) (sq j) (sa j) (sb j))) (n-(0:Nat)) (0:Nat)) (M.Gd.srL (M.Gd.mk w ht s v0 v1 d0 d1 r) n fun i=>M.Sc.mk (sk i) (sc i) (sq i) (sa i) (sb i))
theorem r84w (w ht s v0 v1 d0 d1 r:Int) (n:Nat) (sk sc sq sa sb:Nat→Int):V true [] [] Try.f84 [0,1,2,4,5,8,12,21,29,45] [(0,loopT false Try.f84.ntmps 0 (lp84w w ht s v0 v1 d0 d1 r n sk sc sq sa sb) (fun _ _ _=>(0:Nat)))] [.agg [SI w,SI ht,SI s,SI v0,SI v1,SI d0,SI d1,SI r],.sl 5 n (fun k=>[SI (sk k),SI (sc k),SI (sq k),SI (sa k),SI (sb k)])] (SI (M.Gd.srL (M.Gd.mk w ht s v0 v1 d0 d1 r) n (fun i=>M.Sc.mk (sk i) (sc i) (sq i) (sa i) (sb i))))=Rr84w w ht s v0 v1 d0 d1 r n sk sc sq sa sb:=by kernel_rfl
theorem br84w (w ht s v0 v1 d0 d1 r:Int) (n:Nat) (sk sc sq sa sb:Nat→Int) (hp:(n≤9223372036854775807)∧(M.Gd.ok (M.Gd.mk w ht s v0 v1 d0 d1 r))∧AllP []):Rr84w w ht s v0 v1 d0 d1 r n sk sc sq sa sb:=by
 unfold Rr84w
 dsimp -iota -proj -eta -zeta only
 obtain ⟨h1,hk,-⟩:=id hp
 simp only [M.Gd.srL,Nat.sub_zero]
 have r1:R64 (n:Int):=by unfold R64; omega
 generalize M.fe (fun j=>M.Gd.srE (M.Gd.mk w ht s v0 v1 d0 d1 r) ((fun i=>M.Sc.mk (sk i) (sc i) (sq i) (sa i) (sb i)) j)) n 0=F
 by_cases hn:256<n
 ·have hn':(256:Int)<n:=by omega
  simp [hk,hn,hn',r1]
 ·have hn':¬ (256:Int)<n:=by omega
  have h1:n≤100000:=by omega
  simp [hk,hn,hn',h1,r1]
  exact fun h=>h.symm
theorem s84w:PureOK PP 84 e84w:=by
 intro xs ps res h hp
 unfold e84w at h
 split at h
 ·rename_i w ht s v0 v1 d0 d1 r n g_1
  cases h
  simp only [AllP.cons] at hp
  obtain ⟨Hg_1,hp⟩:=hp
  exact Spec.args (enterH (Hold.of (r84w w ht s v0 v1 d0 d1 r n (cI g_1 0) (cI g_1 1) (cI g_1 2) (cI g_1 3) (cI g_1 4)) (br84w w ht s v0 v1 d0 d1 r n (cI g_1 0) (cI g_1 1) (cI g_1 2) (cI g_1 3) (cI g_1 4) hp)) (.nil) (.nil) (k:=84) (by kernel_rfl) (by kernel_rfl) (fun Y=>.cons (by kernel_rfl) (t84w w ht s v0 v1 d0 d1 r n (cI g_1 0) (cI g_1 1) (cI g_1 2) (cI g_1 3) (cI g_1 4) FOK.wide Y) (.nil))) (.cons (.refl _) (.cons (.row Hg_1 fun _=>rfl) .nil))
 ·cases h
def lp59w (w ht s v0 v1 d0 d1 r:Int) (ns:Nat) (x:Nat→Int) (f:Int) (m:Nat) (pk ps pa pb pc pd:Nat→Int):LoopS where
 ι:=Nat
 β:=Int
 pre i:=i≤m∧m≤100000∧ns≤64
 μ i:=m-i
 next i _ _ _:=i+1
 out i:=M.fe (fun j=>M.Pk.vE ns ((fun i=>M.Pk.mk (pk i) (ps i) (pa i) (pb i) (pc i) (pd i)) j)) (m-i) i
 early q:=decide (q≠0)
 SA i:=[(3,.ptr 0 0),(41,.sl 6 m (fun j=>[SI (pk j),SI (ps j),SI (pa j),SI (pb j),SI (pc j),SI (pd j)])),(42,SI m),(43,SI i)]
 SH _:=[(0,.cells [SI w,SI ht,SI s,SI v0,SI v1,SI d0,SI d1,SI r,.sl 1 ns (fun k=>[SI (x k)]),SI f])]
 n0:=1
 NA _:=[(3,.ptr 0 0)]
 NH _:=[(0,.cells [SI w,SI ht,SI s,SI v0,SI v1,SI d0,SI d1,SI r,.sl 1 ns (fun k=>[SI (x k)]),SI f])]
 n1:=1
 RA q:=[(6,SI q)]
 RH _:=[]
def Rq59w (w ht s v0 v1 d0 d1 r:Int) (ns:Nat) (x:Nat→Int) (f:Int) (m:Nat) (pk ps pa pb pc pd:Nat→Int) (i:Nat):Prop:=(fun (z5 z6:Int) (z4:Nat) (z1:Nat→Nat→Int) (z2:Prop)=>(fun (z7:Bool) (z0:Nat)=>(fun (z3:Int)=>(decide (z5<z6)=true→(0:Int)≤z5∧z5<z6∧z0<m∧(∀ (k:Nat),k<ns→x k=x k)∧ns≤(100000:Nat)∧((!decide (z3=(0:Int)))=true→z7=true∧z3=z1 (m-i) i∧True)∧((!decide (z3=(0:Int)))=false→R64 (z5+(1:Int))∧(z4≤m∧m≤(100000:Nat)∧ns≤(64:Nat))∧m-z4<m-i∧z1 (m-z4) z4=z1 (m-i) i∧(m=m∧∀ (k:Nat),k<m→pk k=pk k∧ps k=ps k∧pa k=pa k∧pb k=pb k∧pc k=pc k∧pd k=pd k)∧z6=z6∧z5+(1:Int)=(↑z4:Int)∧z2))∧(decide (z5<z6)=false→z7=false∧z2)) (M.Pk.vE ns (M.Pk.mk (pk z0) (ps z0) (pa z0) (pb z0) (pc z0) (pd z0)))) (decide (z1 (m-i) i≠(0:Int))) (Int.toNat z5)) (↑i:Int) (↑m:Int) (i+(1:Nat)) (M.fe (fun j=>M.Pk.vE ns (M.Pk.mk (pk j) (ps j) (pa j) (pb j) (pc j) (pd j)))) (w=w∧ht=ht∧s=s∧v0=v0∧v1=v1∧d0=d0∧d1=d1∧r=r∧(ns=ns∧∀ (k:Nat),k<ns→x k=x k)∧f=f∧True)
theorem q59w (w ht s v0 v1 d0 d1 r:Int) (ns:Nat) (x:Nat→Int) (f:Int) (m:Nat) (pk ps pa pb pc pd:Nat→Int) (i:Nat):VL true [] [(87,pureE e87)] YS.none Try.f59 0 [0,1,2,3,6,7,8,9,11,12,17,22,29,36,40,41,42,43,44,51,57] [] 0 (lp59w w ht s v0 v1 d0 d1 r ns x f m pk ps pa pb pc pd) (i)=Rq59w w ht s v0 v1 d0 d1 r ns x f m pk ps pa pb pc pd i:=by kernel_rfl
theorem peq59w (w ht s v0 v1 d0 d1 r:Int) (ns:Nat) (x:Nat→Int) (f:Int) (m:Nat) (pk ps pa pb pc pd:Nat→Int) (i:Nat):(lp59w w ht s v0 v1 d0 d1 r ns x f m pk ps pa pb pc pd).pre (i)=(i≤m∧m≤(100000:Nat)∧ns≤(64:Nat)):=by kernel_rfl
theorem bq59w (w ht s v0 v1 d0 d1 r:Int) (ns:Nat) (x:Nat→Int) (f:Int) (m:Nat) (pk ps pa pb pc pd:Nat→Int) (i:Nat) (hp:i≤m∧m≤(100000:Nat)∧ns≤(64:Nat)):Rq59w w ht s v0 v1 d0 d1 r ns x f m pk ps pa pb pc pd i:=by
 unfold Rq59w
 dsimp -iota -proj -eta -zeta only
 obtain ⟨h1,h2,h3⟩:=id hp
 have r1:R64 ((i:Int)+1):=by unfold R64; omega
 have f1:=@M.fe_step (fun j=>M.Pk.vE ns ((fun i=>M.Pk.mk (pk i) (ps i) (pa i) (pb i) (pc i) (pd i)) j)) m i
 have f2:=@M.fe_stop (fun j=>M.Pk.vE ns ((fun i=>M.Pk.mk (pk i) (ps i) (pa i) (pb i) (pc i) (pd i)) j)) m i
 have f3:=@M.fe_end (fun j=>M.Pk.vE ns ((fun i=>M.Pk.mk (pk i) (ps i) (pa i) (pb i) (pc i) (pd i)) j)) m i
 simp only [Int.toNat_natCast,r1]
 generalize M.fe (fun j=>M.Pk.vE ns ((fun i=>M.Pk.mk (pk i) (ps i) (pa i) (pb i) (pc i) (pd i)) j)) (m-i) i=F at *
 generalize M.fe (fun j=>M.Pk.vE ns ((fun i=>M.Pk.mk (pk i) (ps i) (pa i) (pb i) (pc i) (pd i)) j)) (m-(i+1)) (i+1)=F' at *
 by_cases hl:i<m
 ·have f1:=f1 hl
  have f2:=f2 hl
  clear f3
  by_cases c1:M.Pk.vE ns ((fun i=>M.Pk.mk (pk i) (ps i) (pa i) (pb i) (pc i) (pd i)) i)=0
  ·simp only [c1,true_implies,if_true] at f1
   subst f1
   simp [hl,h3,c1,(show ns≤100000 by omega)]
   try omega
  ·simp only [c1,if_false,ne_eq,not_false_iff,true_implies,not_true] at f2
   simp [hl,h3,c1,f2,(show ns≤100000 by omega)]
   try omega
 ·have f3:=f3 (by omega)
  subst f3
  simp [hl,(show ns≤100000 by omega)]
theorem t59w (w ht s v0 v1 d0 d1 r:Int) (ns:Nat) (x:Nat→Int) (f:Int) (m:Nat) (pk ps pa pb pc pd:Nat→Int) {F:Fence} (hF:FOK F) (Y:YEnv PP YS.none):∀ Q A H nx,loopT false Try.f59.ntmps 0 (lp59w w ht s v0 v1 d0 d1 r ns x f m pk ps pa pb pc pd) (fun _ _ _=>(0:Nat)) Q A H nx→WPS Y F Try.f59.ntmps 0 (.block 0 (blkAt 0 Try.f59)) Q A H nx :=
 loopW (E:=[]) (.nil) (O:=[(87,pureE e87)]) (.cons (pureE_ok s87) (.nil)) (ck:=true) (L:=[0,1,2,3,6,7,8,9,11,12,17,22,29,36,40,41,42,43,44,51,57]) (f:=Try.f59) (m:=0) (id:=0) (l:=(lp59w w ht s v0 v1 d0 d1 r ns x f m pk ps pa pb pc pd)) (LI:=fun i=>[]) Y hF (by kernel_rfl) (fun _=>.nil) (by
  rintro i hp
  exact Hold.of (q59w w ht s v0 v1 d0 d1 r ns x f m pk ps pa pb pc pd i) (bq59w w ht s v0 v1 d0 d1 r ns x f m pk ps pa pb pc pd i ((peq59w w ht s v0 v1 d0 d1 r ns x f m pk ps pa pb pc pd i).mp hp)))
def e59w:List SV→Option (List Prop × SV)
 | [.agg [.int .i64 w,.int .i64 ht,.int .i64 s,.int .i64 v0,.int .i64 v1,.int .i64 d0,.int .i64 d1,.int .i64 r,.sl 1 ns g_1,.int .i64 f],.sl 5 n g_2,.sl 6 m g_3]=>some ([Row 1 ns g_1,Row 5 n g_2,Row 6 m g_3,ns≤100000,n≤9223372036854775807,m≤100000],SI (M.Gd.ckE (M.Gd.mk w ht s v0 v1 d0 d1 r) ns (cI g_1 0) n (fun i=>M.Sc.mk ((cI g_2 0) i) ((cI g_2 1) i) ((cI g_2 2) i) ((cI g_2 3) i) ((cI g_2 4) i)) m (fun i=>M.Pk.mk ((cI g_3 0) i) ((cI g_3 1) i) ((cI g_3 2) i) ((cI g_3 3) i) ((cI g_3 4) i) ((cI g_3 5) i)) f))
 | _=>none
def Rr59w (w ht s v0 v1 d0 d1 r:Int) (ns:Nat) (x:Nat→Int) (f:Int) (n:Nat) (sk sc sq sa sb:Nat→Int) (m:Nat) (pk ps pa pb pc pd:Nat→Int):Prop:=(fun (z7 z9:Bool) (z2 z4:Int) (z1:M.Gd) (z6:Prop)=>(fun (z5 z8:Bool) (z0 z3:Int)=>((!decide (M.Gd.er z1=z4))=true→M.Gd.er z1=z0)∧((!decide (M.Gd.er z1=z4))=false→(z7=true→(9:Int)=z0)∧(z7=false→z6∧ns≤(100000:Nat)∧(z8=true→M.Gd.kn z1 ns x=z0)∧(z8=false→(∀ (k:Nat),k<n→sk k=sk k∧sc k=sc k∧sq k=sq k∧sa k=sa k∧sb k=sb k)∧n≤(9223372036854775807:Nat)∧((!decide (z3=z4))=true→z3=z0)∧((!decide (z3=z4))=false→(z9=true→(9:Int)=z0)∧(z9=false→((0:Nat)≤m∧m≤(100000:Nat)∧ns≤(64:Nat))∧((m=m∧∀ (k:Nat),k<m→pk k=pk k∧ps k=ps k∧pa k=pa k∧pb k=pb k∧pc k=pc k∧pd k=pd k)∧(↑m:Int)=(↑m:Int)∧z4=(↑(0:Nat):Int)∧w=w∧ht=ht∧s=s∧v0=v0∧v1=v1∧d0=d0∧d1=d1∧r=r∧(ns=ns∧z6)∧f=f∧True)∧(decide (z2≠z4)=false→(z5=true→(3:Int)=z0)∧(z5=false→z4=z0))∧(decide (z2≠z4)=true→z2=z0))))))) (!decide (z4≤f∧f≤(8:Int))) (!decide (M.Gd.kn z1 ns x=z4)) (M.Gd.ckE z1 ns x n (fun i=>M.Sc.mk (sk i) (sc i) (sq i) (sa i) (sb i)) m (fun i=>M.Pk.mk (pk i) (ps i) (pa i) (pb i) (pc i) (pd i)) f) (M.Gd.csE z1 n fun i=>M.Sc.mk (sk i) (sc i) (sq i) (sa i) (sb i))) (decide ((64:Int)<(↑ns:Int))) (decide ((64:Int)<(↑m:Int))) (M.fe (fun j=>M.Pk.vE ns (M.Pk.mk (pk j) (ps j) (pa j) (pb j) (pc j) (pd j))) (m-(0:Nat)) (0:Nat)) (0:Int) (M.Gd.mk w ht s v0 v1 d0 d1 r) (∀ (k:Nat),k<ns→x k=x k)
theorem r59w (w ht s v0 v1 d0 d1 r:Int) (ns:Nat) (x:Nat→Int) (f:Int) (n:Nat) (sk sc sq sa sb:Nat→Int) (m:Nat) (pk ps pa pb pc pd:Nat→Int):V true [] [(28,pureE e28),(63,pureE e63),(40,pureE e40w),(67,pureE e67)] Try.f59 [0,1,2,3,6,7,8,9,11,12,17,22,29,36,40,41,42,43,44,51,57] [(0,loopT false Try.f59.ntmps 0 (lp59w w ht s v0 v1 d0 d1 r ns x f m pk ps pa pb pc pd) (fun _ _ _=>(0:Nat)))] [.agg [SI w,SI ht,SI s,SI v0,SI v1,SI d0,SI d1,SI r,.sl 1 ns (fun k=>[SI (x k)]),SI f],.sl 5 n (fun k=>[SI (sk k),SI (sc k),SI (sq k),SI (sa k),SI (sb k)]),.sl 6 m (fun k=>[SI (pk k),SI (ps k),SI (pa k),SI (pb k),SI (pc k),SI (pd k)])] (SI (M.Gd.ckE (M.Gd.mk w ht s v0 v1 d0 d1 r) ns x n (fun i=>M.Sc.mk (sk i) (sc i) (sq i) (sa i) (sb i)) m (fun i=>M.Pk.mk (pk i) (ps i) (pa i) (pb i) (pc i) (pd i)) f))=Rr59w w ht s v0 v1 d0 d1 r ns x f n sk sc sq sa sb m pk ps pa pb pc pd:=by kernel_rfl
theorem br59w (w ht s v0 v1 d0 d1 r:Int) (ns:Nat) (x:Nat→Int) (f:Int) (n:Nat) (sk sc sq sa sb:Nat→Int) (m:Nat) (pk ps pa pb pc pd:Nat→Int) (hp:(ns≤100000)∧(n≤9223372036854775807)∧(m≤100000)∧AllP []):Rr59w w ht s v0 v1 d0 d1 r ns x f n sk sc sq sa sb m pk ps pa pb pc pd:=by
 unfold Rr59w
 dsimp -iota -proj -eta -zeta only
 obtain ⟨h1,h2,h3,-⟩:=id hp
 have r1:R64 (ns:Int):=by unfold R64; omega
 have r2:R64 (m:Int):=by unfold R64; omega
 simp only [M.Gd.ckE,M.Gd.er,M.Gd.kn,M.Gd.csE,Nat.sub_zero]
 obtain ⟨F,hF⟩ : ∃ F,F=M.fe (fun j=>M.Pk.vE ns ((fun i=>M.Pk.mk (pk i) (ps i) (pa i) (pb i) (pc i) (pd i)) j)) m 0:=⟨_,rfl⟩
 obtain ⟨G,hG⟩ : ∃ G,G=M.Gd.srL (M.Gd.mk w ht s v0 v1 d0 d1 r) n (fun i=>M.Sc.mk (sk i) (sc i) (sq i) (sa i) (sb i)):=⟨_,rfl⟩
 simp only [← hF,← hG]
 clear hF hG
 by_cases c1:M.Gd.ok (M.Gd.mk w ht s v0 v1 d0 d1 r)
 ·by_cases c2:64<ns
  ·have c2':(64:Int)<ns:=by omega
   simp [c1,c2,c2',r1]
  ·have c2':¬ (64:Int)<ns:=by omega
   by_cases c3:M.Gd.all (M.Gd.mk w ht s v0 v1 d0 d1 r) ns x
   ·by_cases c4:G=0
    ·by_cases c5:64<m
     ·have c5':(64:Int)<m:=by omega
      simp [c1,c2,c2',c3,c4,c5,c5',h1,h2,h3,r1,r2]
     ·have c5':¬ (64:Int)<m:=by omega
      by_cases c6:F=0
      ·by_cases c7:0≤f∧f≤8 <;> simp [c1,c2,c2',c3,c4,c5,c5',c6,c7,h1,h2,h3,r1,r2]
       all_goals omega
      ·simp [c1,c2,c2',c3,c4,c5,c5',c6,h1,h2,h3,r1,r2]
       try omega
    ·simp [c1,c2,c2',c3,c4,h1,h2,h3,r1,r2]
   ·simp [c1,c2,c2',c3,h1,h2,h3,r1,r2]
 ·simp [c1]
theorem s59w:PureOK PP 59 e59w:=by
 intro xs ps res h hp
 unfold e59w at h
 split at h
 ·rename_i w ht s v0 v1 d0 d1 r ns g_1 f n g_2 m g_3
  cases h
  simp only [AllP.cons] at hp
  obtain ⟨Hg_1,Hg_2,Hg_3,hp⟩:=hp
  exact Spec.args (enterH (Hold.of (r59w w ht s v0 v1 d0 d1 r ns (cI g_1 0) f n (cI g_2 0) (cI g_2 1) (cI g_2 2) (cI g_2 3) (cI g_2 4) m (cI g_3 0) (cI g_3 1) (cI g_3 2) (cI g_3 3) (cI g_3 4) (cI g_3 5)) (br59w w ht s v0 v1 d0 d1 r ns (cI g_1 0) f n (cI g_2 0) (cI g_2 1) (cI g_2 2) (cI g_2 3) (cI g_2 4) m (cI g_3 0) (cI g_3 1) (cI g_3 2) (cI g_3 3) (cI g_3 4) (cI g_3 5) hp)) (.nil) (.cons (pureE_ok s28) (.cons (pureE_ok s63) (.cons (pureE_ok s40w) (.cons (pureE_ok s67) (.nil))))) (k:=59) (by kernel_rfl) (by kernel_rfl) (fun Y=>.cons (by kernel_rfl) (t59w w ht s v0 v1 d0 d1 r ns (cI g_1 0) f m (cI g_3 0) (cI g_3 1) (cI g_3 2) (cI g_3 3) (cI g_3 4) (cI g_3 5) FOK.wide Y) (.nil))) (.cons (.agg (.cons (.refl _) (.cons (.refl _) (.cons (.refl _) (.cons (.refl _) (.cons (.refl _) (.cons (.refl _) (.cons (.refl _) (.cons (.refl _) (.cons (.row Hg_1 fun _=>rfl) (.cons (.refl _) .nil))))))))))) (.cons (.row Hg_2 fun _=>rfl) (.cons (.row Hg_3 fun _=>rfl) .nil)))
 ·cases h
def lp61aw (w ht s v0 v1 d0 d1 r:Int) (ns:Nat) (x:Nat→Int) (f:Int) (n:Nat) (sk sc sq sa sb:Nat→Int) (m:Nat) (pk ps pa pb pc pd:Nat→Int):LoopS where
 ι:=Nat
 β:=Int
 pre i:=i≤ns∧ns≤100000∧M.Gd.ok (M.Gd.mk w ht s v0 v1 d0 d1 r)
 μ i:=ns-i
 next i _ _ _:=i+1
 out i:=M.fe (fun j=>if M.Gd.cell (M.Gd.mk w ht s v0 v1 d0 d1 r) (x j) then (0:Int) else 4) (ns-i) i
 early q:=decide (q≠0)
 SA i:=[(1,.sl 1 ns (fun k=>[SI (x k)])),(2,.sl 5 n (fun j=>[SI (sk j),SI (sc j),SI (sq j),SI (sa j),SI (sb j)])),(3,.sl 6 m (fun j=>[SI (pk j),SI (ps j),SI (pa j),SI (pb j),SI (pc j),SI (pd j)])),(4,SI f),(5,.ptr 0 0),(12,SI i)]
 SH _:=[(0,.cells [SI w,SI ht,SI s,SI v0,SI v1,SI d0,SI d1,SI r])]
 n0:=1
 NA _:=[(1,.sl 1 ns (fun k=>[SI (x k)])),(2,.sl 5 n (fun j=>[SI (sk j),SI (sc j),SI (sq j),SI (sa j),SI (sb j)])),(3,.sl 6 m (fun j=>[SI (pk j),SI (ps j),SI (pa j),SI (pb j),SI (pc j),SI (pd j)])),(4,SI f),(5,.ptr 0 0)]
 NH _:=[(0,.cells [SI w,SI ht,SI s,SI v0,SI v1,SI d0,SI d1,SI r])]
 n1:=1
 RA q:=[(10,SI q)]
 RH _:=[]
def Rq61aw (w ht s v0 v1 d0 d1 r:Int) (ns:Nat) (x:Nat→Int) (f:Int) (n:Nat) (sk sc sq sa sb:Nat→Int) (m:Nat) (pk ps pa pb pc pd:Nat→Int) (i:Nat):Prop:=(fun (z5:Int) (z4:M.Gd) (z6:Nat) (z1 z2 z3 z7:Prop)=>(fun (z8:Bool) (z0:Nat→Nat→Int)=>(fun (z9:Bool)=>(decide (z5<(↑ns:Int))=true→(0:Int)≤z5∧z5<(↑ns:Int)∧Int.toNat z5<ns∧M.Gd.ok z4∧(z8=true→z9=true∧(4:Int)=z0 (ns-i) i∧True)∧(z8=false→R64 (z5+(1:Int))∧(z6≤ns∧ns≤(100000:Nat)∧M.Gd.ok z4)∧ns-z6<ns-i∧z0 (ns-z6) z6=z0 (ns-i) i∧z7∧z2∧z1∧f=f∧z5+(1:Int)=(↑z6:Int)∧z3))∧(decide (z5<(↑ns:Int))=false→z9=false∧z7∧z2∧z1∧f=f∧z3)) (decide (z0 (ns-i) i≠(0:Int)))) (!decide (M.Gd.cell z4 (x (Int.toNat z5)))) (M.fe (fun j=>if M.Gd.cell z4 (x j) then (0:Int) else (4:Int)))) (↑i:Int) (M.Gd.mk w ht s v0 v1 d0 d1 r) (i+(1:Nat)) (m=m∧∀ (k:Nat),k<m→pk k=pk k∧ps k=ps k∧pa k=pa k∧pb k=pb k∧pc k=pc k∧pd k=pd k) (n=n∧∀ (k:Nat),k<n→sk k=sk k∧sc k=sc k∧sq k=sq k∧sa k=sa k∧sb k=sb k) (w=w∧ht=ht∧s=s∧v0=v0∧v1=v1∧d0=d0∧d1=d1∧r=r∧True) (ns=ns∧∀ (k:Nat),k<ns→x k=x k)
theorem q61aw (w ht s v0 v1 d0 d1 r:Int) (ns:Nat) (x:Nat→Int) (f:Int) (n:Nat) (sk sc sq sa sb:Nat→Int) (m:Nat) (pk ps pa pb pc pd:Nat→Int) (i:Nat):VL true [] [(65,pureE e65)] YS.none Try.f61 0 [0,1,2,3,4,5,10,11,12,13,14,18,22,26,35,40,44,48,58,62] [] 0 (lp61aw w ht s v0 v1 d0 d1 r ns x f n sk sc sq sa sb m pk ps pa pb pc pd) (i)=Rq61aw w ht s v0 v1 d0 d1 r ns x f n sk sc sq sa sb m pk ps pa pb pc pd i:=by kernel_rfl
theorem peq61aw (w ht s v0 v1 d0 d1 r:Int) (ns:Nat) (x:Nat→Int) (f:Int) (n:Nat) (sk sc sq sa sb:Nat→Int) (m:Nat) (pk ps pa pb pc pd:Nat→Int) (i:Nat):(lp61aw w ht s v0 v1 d0 d1 r ns x f n sk sc sq sa sb m pk ps pa pb pc pd).pre (i)=(i≤ns∧ns≤(100000:Nat)∧M.Gd.ok (M.Gd.mk w ht s v0 v1 d0 d1 r)):=by kernel_rfl
theorem bq61aw (w ht s v0 v1 d0 d1 r:Int) (ns:Nat) (x:Nat→Int) (f:Int) (n:Nat) (sk sc sq sa sb:Nat→Int) (m:Nat) (pk ps pa pb pc pd:Nat→Int) (i:Nat) (hp:i≤ns∧ns≤(100000:Nat)∧M.Gd.ok (M.Gd.mk w ht s v0 v1 d0 d1 r)):Rq61aw w ht s v0 v1 d0 d1 r ns x f n sk sc sq sa sb m pk ps pa pb pc pd i:=by
 unfold Rq61aw
 dsimp -iota -proj -eta -zeta only
 obtain ⟨h1,h2,h3⟩:=id hp
 have r1:R64 ((i:Int)+1):=by unfold R64; omega
 have f1:=@M.fe_step (fun j=>if M.Gd.cell (M.Gd.mk w ht s v0 v1 d0 d1 r) (x j) then (0:Int) else 4) ns i
 have f2:=@M.fe_stop (fun j=>if M.Gd.cell (M.Gd.mk w ht s v0 v1 d0 d1 r) (x j) then (0:Int) else 4) ns i
 have f3:=@M.fe_end (fun j=>if M.Gd.cell (M.Gd.mk w ht s v0 v1 d0 d1 r) (x j) then (0:Int) else 4) ns i
 simp only [Int.toNat_natCast,r1]
 generalize M.fe (fun j=>if M.Gd.cell (M.Gd.mk w ht s v0 v1 d0 d1 r) (x j) then (0:Int) else 4) (ns-i) i=F at *
 generalize M.fe (fun j=>if M.Gd.cell (M.Gd.mk w ht s v0 v1 d0 d1 r) (x j) then (0:Int) else 4) (ns-(i+1)) (i+1)=F' at *
 by_cases hl:i<ns
 ·have f1:=f1 hl
  have f2:=f2 hl
  clear f3
  by_cases c1:M.Gd.cell (M.Gd.mk w ht s v0 v1 d0 d1 r) (x i)
  ·simp only [c1,true_implies,if_true] at f1
   subst f1
   simp [hl,h3,c1]
   try omega
  ·simp only [c1,if_false,ne_eq,not_false_iff,true_implies,not_true] at f2
   simp [hl,h3,c1,f2]
   try omega
 ·have f3:=f3 (by omega)
  subst f3
  simp [hl]
theorem t61aw (w ht s v0 v1 d0 d1 r:Int) (ns:Nat) (x:Nat→Int) (f:Int) (n:Nat) (sk sc sq sa sb:Nat→Int) (m:Nat) (pk ps pa pb pc pd:Nat→Int) {F:Fence} (hF:FOK F) (Y:YEnv PP YS.none):∀ Q A H nx,loopT false Try.f61.ntmps 0 (lp61aw w ht s v0 v1 d0 d1 r ns x f n sk sc sq sa sb m pk ps pa pb pc pd) (fun _ _ _=>(0:Nat)) Q A H nx→WPS Y F Try.f61.ntmps 0 (.block 0 (blkAt 0 Try.f61)) Q A H nx :=
 loopW (E:=[]) (.nil) (O:=[(65,pureE e65)]) (.cons (pureE_ok s65) (.nil)) (ck:=true) (L:=[0,1,2,3,4,5,10,11,12,13,14,18,22,26,35,40,44,48,58,62]) (f:=Try.f61) (m:=0) (id:=0) (l:=(lp61aw w ht s v0 v1 d0 d1 r ns x f n sk sc sq sa sb m pk ps pa pb pc pd)) (LI:=fun i=>[]) Y hF (by kernel_rfl) (fun _=>.nil) (by
  rintro i hp
  exact Hold.of (q61aw w ht s v0 v1 d0 d1 r ns x f n sk sc sq sa sb m pk ps pa pb pc pd i) (bq61aw w ht s v0 v1 d0 d1 r ns x f n sk sc sq sa sb m pk ps pa pb pc pd i ((peq61aw w ht s v0 v1 d0 d1 r ns x f n sk sc sq sa sb m pk ps pa pb pc pd i).mp hp)))
def lp61bw (w ht s v0 v1 d0 d1 r:Int) (ns:Nat) (x:Nat→Int) (f:Int) (m:Nat) (pk ps pa pb pc pd:Nat→Int):LoopS where
 ι:=Nat
 β:=Int
 pre i:=i≤m∧m≤100000∧ns≤100000
 μ i:=m-i
 next i _ _ _:=i+1
 out i:=M.fe (fun j=>M.Pk.vE ns ((fun i=>M.Pk.mk (pk i) (ps i) (pa i) (pb i) (pc i) (pd i)) j)) (m-i) i
 early q:=decide (q≠0)
 SA i:=[(1,.sl 1 ns (fun k=>[SI (x k)])),(3,.sl 6 m (fun j=>[SI (pk j),SI (ps j),SI (pa j),SI (pb j),SI (pc j),SI (pd j)])),(4,SI f),(13,SI i)]
 SH _:=[]
 n0:=0
 NA _:=[(4,SI f)]
 NH _:=[]
 n1:=0
 RA q:=[(10,SI q)]
 RH _:=[]
def Rq61bw (w ht s v0 v1 d0 d1 r:Int) (ns:Nat) (x:Nat→Int) (f:Int) (m:Nat) (pk ps pa pb pc pd:Nat→Int) (i:Nat):Prop:=(fun (z4:Int) (z3:Nat) (z1:Nat→Nat→Int) (z5:Prop)=>(fun (z6:Bool) (z0:Nat)=>(fun (z2:Int)=>(decide (z4<(↑m:Int))=true→(0:Int)≤z4∧z4<(↑m:Int)∧z0<m∧z5∧ns≤(100000:Nat)∧((!decide (z2=(0:Int)))=true→z6=true∧z2=z1 (m-i) i∧True)∧((!decide (z2=(0:Int)))=false→R64 (z4+(1:Int))∧(z3≤m∧m≤(100000:Nat)∧ns≤(100000:Nat))∧m-z3<m-i∧z1 (m-z3) z3=z1 (m-i) i∧(ns=ns∧z5)∧(m=m∧∀ (k:Nat),k<m→pk k=pk k∧ps k=ps k∧pa k=pa k∧pb k=pb k∧pc k=pc k∧pd k=pd k)∧f=f∧z4+(1:Int)=(↑z3:Int)∧True))∧(decide (z4<(↑m:Int))=false→z6=false∧f=f∧True)) (M.Pk.vE ns (M.Pk.mk (pk z0) (ps z0) (pa z0) (pb z0) (pc z0) (pd z0)))) (decide (z1 (m-i) i≠(0:Int))) (Int.toNat z4)) (↑i:Int) (i+(1:Nat)) (M.fe (fun j=>M.Pk.vE ns (M.Pk.mk (pk j) (ps j) (pa j) (pb j) (pc j) (pd j)))) (∀ (k:Nat),k<ns→x k=x k)
theorem q61bw (w ht s v0 v1 d0 d1 r:Int) (ns:Nat) (x:Nat→Int) (f:Int) (m:Nat) (pk ps pa pb pc pd:Nat→Int) (i:Nat):VL true [] [(89,pureE e89)] YS.none Try.f61 0 [0,1,2,3,4,5,10,11,12,13,14,18,22,26,35,40,44,48,58,62] [] 2 (lp61bw w ht s v0 v1 d0 d1 r ns x f m pk ps pa pb pc pd) (i)=Rq61bw w ht s v0 v1 d0 d1 r ns x f m pk ps pa pb pc pd i:=by kernel_rfl
theorem peq61bw (w ht s v0 v1 d0 d1 r:Int) (ns:Nat) (x:Nat→Int) (f:Int) (m:Nat) (pk ps pa pb pc pd:Nat→Int) (i:Nat):(lp61bw w ht s v0 v1 d0 d1 r ns x f m pk ps pa pb pc pd).pre (i)=(i≤m∧m≤(100000:Nat)∧ns≤(100000:Nat)):=by kernel_rfl
theorem bq61bw (w ht s v0 v1 d0 d1 r:Int) (ns:Nat) (x:Nat→Int) (f:Int) (m:Nat) (pk ps pa pb pc pd:Nat→Int) (i:Nat) (hp:i≤m∧m≤(100000:Nat)∧ns≤(100000:Nat)):Rq61bw w ht s v0 v1 d0 d1 r ns x f m pk ps pa pb pc pd i:=by
 unfold Rq61bw
 dsimp -iota -proj -eta -zeta only
 obtain ⟨h1,h2,h3⟩:=id hp
 have r1:R64 ((i:Int)+1):=by unfold R64; omega
 have f1:=@M.fe_step (fun j=>M.Pk.vE ns ((fun i=>M.Pk.mk (pk i) (ps i) (pa i) (pb i) (pc i) (pd i)) j)) m i
 have f2:=@M.fe_stop (fun j=>M.Pk.vE ns ((fun i=>M.Pk.mk (pk i) (ps i) (pa i) (pb i) (pc i) (pd i)) j)) m i
 have f3:=@M.fe_end (fun j=>M.Pk.vE ns ((fun i=>M.Pk.mk (pk i) (ps i) (pa i) (pb i) (pc i) (pd i)) j)) m i
 simp only [Int.toNat_natCast,r1]
 generalize M.fe (fun j=>M.Pk.vE ns ((fun i=>M.Pk.mk (pk i) (ps i) (pa i) (pb i) (pc i) (pd i)) j)) (m-i) i=F at *
 generalize M.fe (fun j=>M.Pk.vE ns ((fun i=>M.Pk.mk (pk i) (ps i) (pa i) (pb i) (pc i) (pd i)) j)) (m-(i+1)) (i+1)=F' at *
 by_cases hl:i<m
 ·have f1:=f1 hl
  have f2:=f2 hl
  clear f3
  by_cases c1:M.Pk.vE ns ((fun i=>M.Pk.mk (pk i) (ps i) (pa i) (pb i) (pc i) (pd i)) i)=0
  ·simp only [c1,true_implies,if_true] at f1
   subst f1
   simp [hl,h3,c1]
   try omega
  ·simp only [c1,if_false,ne_eq,not_false_iff,true_implies,not_true] at f2
   simp [hl,h3,c1,f2]
   try omega
 ·have f3:=f3 (by omega)
  subst f3
  simp [hl]
theorem t61bw (w ht s v0 v1 d0 d1 r:Int) (ns:Nat) (x:Nat→Int) (f:Int) (m:Nat) (pk ps pa pb pc pd:Nat→Int) {F:Fence} (hF:FOK F) (Y:YEnv PP YS.none):∀ Q A H nx,loopT false Try.f61.ntmps 0 (lp61bw w ht s v0 v1 d0 d1 r ns x f m pk ps pa pb pc pd) (fun _ _ _=>(0:Nat)) Q A H nx→WPS Y F Try.f61.ntmps 0 (.block 2 (blkAt 2 Try.f61)) Q A H nx :=
 loopW (E:=[]) (.nil) (O:=[(89,pureE e89)]) (.cons (pureE_ok s89) (.nil)) (ck:=true) (L:=[0,1,2,3,4,5,10,11,12,13,14,18,22,26,35,40,44,48,58,62]) (f:=Try.f61) (m:=0) (id:=2) (l:=(lp61bw w ht s v0 v1 d0 d1 r ns x f m pk ps pa pb pc pd)) (LI:=fun i=>[]) Y hF (by kernel_rfl) (fun _=>.nil) (by
  rintro i hp
  exact Hold.of (q61bw w ht s v0 v1 d0 d1 r ns x f m pk ps pa pb pc pd i) (bq61bw w ht s v0 v1 d0 d1 r ns x f m pk ps pa pb pc pd i ((peq61bw w ht s v0 v1 d0 d1 r ns x f m pk ps pa pb pc pd i).mp hp)))
def e61w:List SV→Option (List Prop × SV)
 | [.agg [.int .i64 w,.int .i64 ht,.int .i64 s,.int .i64 v0,.int .i64 v1,.int .i64 d0,.int .i64 d1,.int .i64 r],.sl 1 ns g_1,.sl 5 n g_2,.sl 6 m g_3,.int .i64 f]=>some ([Row 1 ns g_1,Row 5 n g_2,Row 6 m g_3,ns≤100000,n≤9223372036854775807,m≤100000],SI (M.Gd.ckE (M.Gd.mk w ht s v0 v1 d0 d1 r) ns (cI g_1 0) n (fun i=>M.Sc.mk ((cI g_2 0) i) ((cI g_2 1) i) ((cI g_2 2) i) ((cI g_2 3) i) ((cI g_2 4) i)) m (fun i=>M.Pk.mk ((cI g_3 0) i) ((cI g_3 1) i) ((cI g_3 2) i) ((cI g_3 3) i) ((cI g_3 4) i) ((cI g_3 5) i)) f))
 | _=>none
def Rr61w (w ht s v0 v1 d0 d1 r:Int) (ns:Nat) (x:Nat→Int) (f:Int) (n:Nat) (sk sc sq sa sb:Nat→Int) (m:Nat) (pk ps pa pb pc pd:Nat→Int):Prop:=(fun (z10:Bool) (z2 z7:Int) (z1:M.Gd) (z5 z6 z8:Prop)=>(fun (z9:Bool) (z0 z3 z4:Int)=>((!decide (M.Gd.er z1=z7))=true→M.Gd.er z1=z0)∧((!decide (M.Gd.er z1=z7))=false→(z10=true→(9:Int)=z0)∧(z10=false→((0:Nat)≤ns∧ns≤(100000:Nat)∧M.Gd.ok z1)∧(z8∧(n=n∧z6)∧z5∧f=f∧z7=(↑(0:Nat):Int)∧w=w∧ht=ht∧s=s∧v0=v0∧v1=v1∧d0=d0∧d1=d1∧r=r∧True)∧(decide (z3≠z7)=false→z6∧n≤(9223372036854775807:Nat)∧M.Gd.ok z1∧((!decide (z4=z7))=true→z4=z0)∧((!decide (z4=z7))=false→(decide ((64:Int)<(↑m:Int))=true→(9:Int)=z0)∧(decide ((64:Int)<(↑m:Int))=false→((0:Nat)≤m∧m≤(100000:Nat)∧ns≤(100000:Nat))∧(z8∧z5∧f=f∧z7=(↑(0:Nat):Int)∧True)∧(decide (z2≠z7)=false→(z9=true→(3:Int)=z0)∧(z9=false→z7=z0))∧(decide (z2≠z7)=true→z2=z0))))∧(decide (z3≠z7)=true→z3=z0)))) (!decide (z7≤f∧f≤(8:Int))) (M.Gd.ckE z1 ns x n (fun i=>M.Sc.mk (sk i) (sc i) (sq i) (sa i) (sb i)) m (fun i=>M.Pk.mk (pk i) (ps i) (pa i) (pb i) (pc i) (pd i)) f) (M.fe (fun j=>if M.Gd.cell z1 (x j) then z7 else (4:Int)) (ns-(0:Nat)) (0:Nat)) (M.Gd.srL z1 n fun i=>M.Sc.mk (sk i) (sc i) (sq i) (sa i) (sb i))) (decide ((64:Int)<(↑ns:Int))) (M.fe (fun j=>M.Pk.vE ns (M.Pk.mk (pk j) (ps j) (pa j) (pb j) (pc j) (pd j))) (m-(0:Nat)) (0:Nat)) (0:Int) (M.Gd.mk w ht s v0 v1 d0 d1 r) (m=m∧∀ (k:Nat),k<m→pk k=pk k∧ps k=ps k∧pa k=pa k∧pb k=pb k∧pc k=pc k∧pd k=pd k) (∀ (k:Nat),k<n→sk k=sk k∧sc k=sc k∧sq k=sq k∧sa k=sa k∧sb k=sb k) (ns=ns∧∀ (k:Nat),k<ns→x k=x k)
theorem r61w (w ht s v0 v1 d0 d1 r:Int) (ns:Nat) (x:Nat→Int) (f:Int) (n:Nat) (sk sc sq sa sb:Nat→Int) (m:Nat) (pk ps pa pb pc pd:Nat→Int):V true [] [(29,pureE e29),(84,pureE e84w),(69,pureE e69)] Try.f61 [0,1,2,3,4,5,10,11,12,13,14,18,22,26,35,40,44,48,58,62] [(0,loopT false Try.f61.ntmps 0 (lp61aw w ht s v0 v1 d0 d1 r ns x f n sk sc sq sa sb m pk ps pa pb pc pd) (fun _ _ _=>(0:Nat))),(2,loopT false Try.f61.ntmps 0 (lp61bw w ht s v0 v1 d0 d1 r ns x f m pk ps pa pb pc pd) (fun _ _ _=>(0:Nat)))] [.agg [SI w,SI ht,SI s,SI v0,SI v1,SI d0,SI d1,SI r],.sl 1 ns (fun k=>[SI (x k)]),.sl 5 n (fun k=>[SI (sk k),SI (sc k),SI (sq k),SI (sa k),SI (sb k)]),.sl 6 m (fun k=>[SI (pk k),SI (ps k),SI (pa k),SI (pb k),SI (pc k),SI (pd k)]),SI f] (SI (M.Gd.ckE (M.Gd.mk w ht s v0 v1 d0 d1 r) ns x n (fun i=>M.Sc.mk (sk i) (sc i) (sq i) (sa i) (sb i)) m (fun i=>M.Pk.mk (pk i) (ps i) (pa i) (pb i) (pc i) (pd i)) f))=Rr61w w ht s v0 v1 d0 d1 r ns x f n sk sc sq sa sb m pk ps pa pb pc pd:=by kernel_rfl
theorem br61w (w ht s v0 v1 d0 d1 r:Int) (ns:Nat) (x:Nat→Int) (f:Int) (n:Nat) (sk sc sq sa sb:Nat→Int) (m:Nat) (pk ps pa pb pc pd:Nat→Int) (hp:(ns≤100000)∧(n≤9223372036854775807)∧(m≤100000)∧AllP []):Rr61w w ht s v0 v1 d0 d1 r ns x f n sk sc sq sa sb m pk ps pa pb pc pd:=by
 unfold Rr61w
 dsimp -iota -proj -eta -zeta only
 obtain ⟨h1,h2,h3,-⟩:=id hp
 have r1:R64 (ns:Int):=by unfold R64; omega
 have r2:R64 (m:Int):=by unfold R64; omega
 have e0:=@M.fe_all (fun j=>if M.Gd.cell (M.Gd.mk w ht s v0 v1 d0 d1 r) (x j) then (0:Int) else 4) ns
 have e1:(∀ k,k<ns→(if M.Gd.cell (M.Gd.mk w ht s v0 v1 d0 d1 r) (x k) then (0:Int) else 4)=0)↔M.Gd.all (M.Gd.mk w ht s v0 v1 d0 d1 r) ns x:=by
  constructor
  ·intro g k hk
   have:=g k hk
   split at this
   ·assumption
   ·omega
  ·intro g k hk
   rw [if_pos (g k hk)]
 have e2:M.fe (fun j=>if M.Gd.cell (M.Gd.mk w ht s v0 v1 d0 d1 r) (x j) then (0:Int) else 4) ns 0≠0→M.fe (fun j=>if M.Gd.cell (M.Gd.mk w ht s v0 v1 d0 d1 r) (x j) then (0:Int) else 4) ns 0=4:=fun g=>M.fe_val (fun k=>by split <;> simp) g
 rw [e1] at e0
 simp only [M.Gd.ckE,M.Gd.er,Nat.sub_zero]
 obtain ⟨H,hH⟩ : ∃ H,H=M.fe (fun j=>if M.Gd.cell (M.Gd.mk w ht s v0 v1 d0 d1 r) (x j) then (0:Int) else 4) ns 0:=⟨_,rfl⟩
 simp only [← hH] at e0 e2 ⊢
 clear hH
 obtain ⟨F,hF⟩ : ∃ F,F=M.fe (fun j=>M.Pk.vE ns ((fun i=>M.Pk.mk (pk i) (ps i) (pa i) (pb i) (pc i) (pd i)) j)) m 0:=⟨_,rfl⟩
 obtain ⟨G,hG⟩ : ∃ G,G=M.Gd.srL (M.Gd.mk w ht s v0 v1 d0 d1 r) n (fun i=>M.Sc.mk (sk i) (sc i) (sq i) (sa i) (sb i)):=⟨_,rfl⟩
 simp only [← hF,← hG]
 clear hF hG
 by_cases c1:M.Gd.ok (M.Gd.mk w ht s v0 v1 d0 d1 r)
 ·by_cases c2:64<ns
  ·have c2':(64:Int)<ns:=by omega
   simp [c1,c2,c2',r1]
  ·have c2':¬ (64:Int)<ns:=by omega
   by_cases c3:M.Gd.all (M.Gd.mk w ht s v0 v1 d0 d1 r) ns x
   ·have e0:=e0.2 c3
    subst e0
    by_cases c4:G=0
    ·by_cases c5:64<m
     ·have c5':(64:Int)<m:=by omega
      simp [c1,c2,c2',c3,c4,c5,c5',h1,h2,h3,r1,r2]
     ·have c5':¬ (64:Int)<m:=by omega
      by_cases c6:F=0
      ·by_cases c7:0≤f∧f≤8 <;> simp [c1,c2,c2',c3,c4,c5,c5',c6,c7,h1,h2,h3,r1,r2]
       all_goals omega
      ·simp [c1,c2,c2',c3,c4,c5,c5',c6,h1,h2,h3,r1,r2]
       try omega
    ·simp [c1,c2,c2',c3,c4,h1,h2,h3,r1,r2]
   ·have e3:¬ H=0:=fun g=>c3 (e0.1 g)
    have e2:=e2 e3
    simp [c1,c2,c2',c3,h1,h2,h3,r1,r2,e2]
 ·simp [c1]
theorem s61w:PureOK PP 61 e61w:=by
 intro xs ps res h hp
 unfold e61w at h
 split at h
 ·rename_i w ht s v0 v1 d0 d1 r ns g_1 n g_2 m g_3 f
  cases h
  simp only [AllP.cons] at hp
  obtain ⟨Hg_1,Hg_2,Hg_3,hp⟩:=hp
  exact Spec.args (enterH (Hold.of (r61w w ht s v0 v1 d0 d1 r ns (cI g_1 0) f n (cI g_2 0) (cI g_2 1) (cI g_2 2) (cI g_2 3) (cI g_2 4) m (cI g_3 0) (cI g_3 1) (cI g_3 2) (cI g_3 3) (cI g_3 4) (cI g_3 5)) (br61w w ht s v0 v1 d0 d1 r ns (cI g_1 0) f n (cI g_2 0) (cI g_2 1) (cI g_2 2) (cI g_2 3) (cI g_2 4) m (cI g_3 0) (cI g_3 1) (cI g_3 2) (cI g_3 3) (cI g_3 4) (cI g_3 5) hp)) (.nil) (.cons (pureE_ok s29) (.cons (pureE_ok s84w) (.cons (pureE_ok s69) (.nil)))) (k:=61) (by kernel_rfl) (by kernel_rfl) (fun Y=>.cons (by kernel_rfl) (t61aw w ht s v0 v1 d0 d1 r ns (cI g_1 0) f n (cI g_2 0) (cI g_2 1) (cI g_2 2) (cI g_2 3) (cI g_2 4) m (cI g_3 0) (cI g_3 1) (cI g_3 2) (cI g_3 3) (cI g_3 4) (cI g_3 5) FOK.wide Y) (.cons (by kernel_rfl) (t61bw w ht s v0 v1 d0 d1 r ns (cI g_1 0) f m (cI g_3 0) (cI g_3 1) (cI g_3 2) (cI g_3 3) (cI g_3 4) (cI g_3 5) FOK.wide Y) (.nil)))) (.cons (.refl _) (.cons (.row Hg_1 fun _=>rfl) (.cons (.row Hg_2 fun _=>rfl) (.cons (.row Hg_3 fun _=>rfl) (.cons (.refl _) .nil)))))
 ·cases h
def lp35b (w ht s v0 v1 d0 d1 r:Int) (ns:Nat) (x:Nat→Int) (n:Nat) (sk sc sq sa sb:Nat→Int) (m:Nat) (pk ps pa pb pc pd:Nat→Int) (i:Nat):LoopS where
 ι:=Nat
 β:=Unit
 pre j:=j≤m∧i<n∧M.Gd.ok (M.Gd.mk w ht s v0 v1 d0 d1 r)∧M.Gd.all (M.Gd.mk w ht s v0 v1 d0 d1 r) ns x∧ns≤64∧n≤256∧(∀ i,i<n→M.Gd.Sok (M.Gd.mk w ht s v0 v1 d0 d1 r) ((fun i=>M.Sc.mk (sk i) (sc i) (sq i) (sa i) (sb i)) i))∧(∀ i,i<m→M.Pk.Vd ns ((fun i=>M.Pk.mk (pk i) (ps i) (pa i) (pb i) (pc i) (pd i)) i))∧m≤64
 μ j:=m-j
 next j _ _ _:=j+1
 out _:=()
 early _:=false
 SA j:=[(7,.ptr 0 0),(10,.ptr 1 0),(12,.ptr 2 0),(32,.sl 5 n (fun j=>[SI (sk j),SI (sc j),SI (sq j),SI (sa j),SI (sb j)])),(33,SI n),(34,SI i),(14,.ptr 3 0),(15,.vec 4 2 0 (M.Gd.aln (M.Gd.mk w ht s v0 v1 d0 d1 r) x (M.Sc.mk (sk i) (sc i) (sq i) (sa i) (sb i)) (fun i=>M.Pk.mk (pk i) (ps i) (pa i) (pb i) (pc i) (pd i)) j)),(41,.sl 6 m (fun j=>[SI (pk j),SI (ps j),SI (pa j),SI (pb j),SI (pc j),SI (pd j)])),(42,SI m),(43,SI j)]
 SH j:=[(0,.cells [.sl 6 m (fun j=>[SI (pk j),SI (ps j),SI (pa j),SI (pb j),SI (pc j),SI (pd j)])]),(1,.cells [SI w,SI ht,SI s,SI v0,SI v1,SI d0,SI d1,SI r,.sl 1 ns (fun k=>[SI (x k)]),SI 0]),(2,.cells [SI (M.Gd.agA (M.Gd.mk w ht s v0 v1 d0 d1 r) x (fun i=>M.Sc.mk (sk i) (sc i) (sq i) (sa i) (sb i)) m (fun i=>M.Pk.mk (pk i) (ps i) (pa i) (pb i) (pc i) (pd i)) i)]),(3,.cells [SI (sk i),SI (sc i),SI (sq i),SI (sa i),SI (sb i)]),(4,.row 2 (M.Gd.aln (M.Gd.mk w ht s v0 v1 d0 d1 r) x (M.Sc.mk (sk i) (sc i) (sq i) (sa i) (sb i)) (fun i=>M.Pk.mk (pk i) (ps i) (pa i) (pb i) (pc i) (pd i)) j) (fun k=>[SI (M.Gd.alR (M.Gd.mk w ht s v0 v1 d0 d1 r) x (M.Sc.mk (sk i) (sc i) (sq i) (sa i) (sb i)) (fun i=>M.Pk.mk (pk i) (ps i) (pa i) (pb i) (pc i) (pd i)) j k).1,SI (M.Gd.alR (M.Gd.mk w ht s v0 v1 d0 d1 r) x (M.Sc.mk (sk i) (sc i) (sq i) (sa i) (sb i)) (fun i=>M.Pk.mk (pk i) (ps i) (pa i) (pb i) (pc i) (pd i)) j k).2]))]
 n0:=5
 NA _:=[(7,.ptr 0 0),(10,.ptr 1 0),(12,.ptr 2 0),(32,.sl 5 n (fun j=>[SI (sk j),SI (sc j),SI (sq j),SI (sa j),SI (sb j)])),(33,SI n),(34,SI i),(14,.ptr 3 0),(15,.vec 4 2 0 (M.Gd.aln (M.Gd.mk w ht s v0 v1 d0 d1 r) x (M.Sc.mk (sk i) (sc i) (sq i) (sa i) (sb i)) (fun i=>M.Pk.mk (pk i) (ps i) (pa i) (pb i) (pc i) (pd i)) m))]
 NH _:=[(0,.cells [.sl 6 m (fun j=>[SI (pk j),SI (ps j),SI (pa j),SI (pb j),SI (pc j),SI (pd j)])]),(1,.cells [SI w,SI ht,SI s,SI v0,SI v1,SI d0,SI d1,SI r,.sl 1 ns (fun k=>[SI (x k)]),SI 0]),(2,.cells [SI (M.Gd.agA (M.Gd.mk w ht s v0 v1 d0 d1 r) x (fun i=>M.Sc.mk (sk i) (sc i) (sq i) (sa i) (sb i)) m (fun i=>M.Pk.mk (pk i) (ps i) (pa i) (pb i) (pc i) (pd i)) i)]),(3,.cells [SI (sk i),SI (sc i),SI (sq i),SI (sa i),SI (sb i)]),(4,.row 2 (M.Gd.aln (M.Gd.mk w ht s v0 v1 d0 d1 r) x (M.Sc.mk (sk i) (sc i) (sq i) (sa i) (sb i)) (fun i=>M.Pk.mk (pk i) (ps i) (pa i) (pb i) (pc i) (pd i)) m) (fun k=>[SI (M.Gd.alR (M.Gd.mk w ht s v0 v1 d0 d1 r) x (M.Sc.mk (sk i) (sc i) (sq i) (sa i) (sb i)) (fun i=>M.Pk.mk (pk i) (ps i) (pa i) (pb i) (pc i) (pd i)) m k).1,SI (M.Gd.alR (M.Gd.mk w ht s v0 v1 d0 d1 r) x (M.Sc.mk (sk i) (sc i) (sq i) (sa i) (sb i)) (fun i=>M.Pk.mk (pk i) (ps i) (pa i) (pb i) (pc i) (pd i)) m k).2]))]
 n1:=5
 RA _:=[]
 RH _:=[]
def Rq35b (w ht s v0 v1 d0 d1 r:Int) (ns:Nat) (x:Nat→Int) (n:Nat) (sk sc sq sa sb:Nat→Int) (m:Nat) (pk ps pa pb pc pd:Nat→Int) (i:Nat) (j:Nat):Prop:=(fun (z13 z15 z19:Int) (z2:M.Gd) (z1:M.Sc) (z9 z20:Nat) (z0:Nat→M.Pk) (z4 z7 z10 z16 z17:Prop)=>(fun (z5 z18:Int) (z3:M.Pk) (z8 z11 z21:Nat) (z12 z14:Nat→Int × Int) (z6:Prop)=>(decide (z13<z15)=true→z19≤z13∧z13<z15∧Int.toNat z13<m∧z10∧M.Gd.ok z2∧M.Gd.all z2 ns x∧ns≤(64:Nat)∧M.Gd.Sok z2 z1∧M.Pk.Vd ns z3∧(M.Gd.alB z2 x z1 z3=true→z20+(1:Nat)≤(1:Nat)∧(∀ (k:Nat),k<(1:Nat)→true=true)∧z8≤z8∧(z8+(1:Nat))*(16:Nat)≤(140737488355328:Nat)∧R64 z18∧z6∧m-z9<m-j∧()=()∧z7∧z16∧z17∧z20=z20∧z8+(1:Nat)=z11∧z4∧z15=z15∧z18=(↑z9:Int)∧z4∧w=w∧ht=ht∧s=s∧v0=v0∧v1=v1∧d0=d0∧d1=d1∧r=r∧(ns=ns∧z10)∧z19=z19∧z5=z5∧sk i=sk i∧sc i=sc i∧sq i=sq i∧sa i=sa i∧sb i=sb i∧z11≤z8+(1:Nat)∧(∀ (k:Nat),k<z11→(bif decide (k<z8) then (z12 k).1 else M.Gd.alL z2 x z1 z3)=(z14 k).1∧(bif decide (k<z8) then (z12 k).2 else M.Gd.alH z2 x z1 z3)=(z14 k).2)∧True)∧(M.Gd.alB z2 x z1 z3=false→R64 z18∧z6∧m-z9<m-j∧()=()∧z7∧z16∧z17∧z20=z20∧z8=z11∧z4∧z15=z15∧z18=(↑z9:Int)∧z4∧w=w∧ht=ht∧s=s∧v0=v0∧v1=v1∧d0=d0∧d1=d1∧r=r∧(ns=ns∧z10)∧z19=z19∧z5=z5∧sk i=sk i∧sc i=sc i∧sq i=sq i∧sa i=sa i∧sb i=sb i∧z11≤z8∧(∀ (k:Nat),k<z11→(z12 k).1=(z14 k).1∧(z12 k).2=(z14 k).2)∧True))∧(decide (z13<z15)=false→false=false∧z7∧z16∧z17∧z20=z20∧z8=z21∧z4∧w=w∧ht=ht∧s=s∧v0=v0∧v1=v1∧d0=d0∧d1=d1∧r=r∧(ns=ns∧z10)∧z19=z19∧z5=z5∧sk i=sk i∧sc i=sc i∧sq i=sq i∧sa i=sa i∧sb i=sb i∧z21≤z8∧(∀ (k:Nat),k<z21→(z12 k).1=(M.Gd.alR z2 x z1 z0 m k).1∧(z12 k).2=(M.Gd.alR z2 x z1 z0 m k).2)∧True)) (M.Gd.agA z2 x (fun i=>M.Sc.mk (sk i) (sc i) (sq i) (sa i) (sb i)) m z0 i) (z13+(1:Int)) (M.Pk.mk (pk (Int.toNat z13)) (ps (Int.toNat z13)) (pa (Int.toNat z13)) (pb (Int.toNat z13)) (pc (Int.toNat z13)) (pd (Int.toNat z13))) (M.Gd.aln z2 x z1 z0 j) (M.Gd.aln z2 x z1 z0 z9) (M.Gd.aln z2 x z1 z0 m) (M.Gd.alR z2 x z1 z0 j) (M.Gd.alR z2 x z1 z0 z9) (z9≤m∧i<n∧M.Gd.ok z2∧M.Gd.all z2 ns x∧ns≤(64:Nat)∧n≤(256:Nat)∧(∀ (i:Nat),i<n→M.Gd.Sok z2 (M.Sc.mk (sk i) (sc i) (sq i) (sa i) (sb i)))∧(∀ (i:Nat),i<m→M.Pk.Vd ns (M.Pk.mk (pk i) (ps i) (pa i) (pb i) (pc i) (pd i)))∧m≤(64:Nat))) (↑j:Int) (↑m:Int) (0:Int) (M.Gd.mk w ht s v0 v1 d0 d1 r) (M.Sc.mk (sk i) (sc i) (sq i) (sa i) (sb i)) (j+(1:Nat)) (0:Nat) (fun i=>M.Pk.mk (pk i) (ps i) (pa i) (pb i) (pc i) (pd i)) (m=m∧∀ (k:Nat),k<m→pk k=pk k∧ps k=ps k∧pa k=pa k∧pb k=pb k∧pc k=pc k∧pd k=pd k) (n=n∧∀ (k:Nat),k<n→sk k=sk k∧sc k=sc k∧sq k=sq k∧sa k=sa k∧sb k=sb k) (∀ (k:Nat),k<ns→x k=x k) ((↑n:Int)=(↑n:Int)) ((↑i:Int)=(↑i:Int))
theorem q35b (w ht s v0 v1 d0 d1 r:Int) (ns:Nat) (x:Nat→Int) (n:Nat) (sk sc sq sa sb:Nat→Int) (m:Nat) (pk ps pa pb pc pd:Nat→Int) (i:Nat) (j:Nat):VL true [] [(79,pureE e79)] YS.none Try.f35 0 [0,1,2,3,4,7,8,9,10,11,12,14,15,17,18,19,21,30,32,33,34,35,40,41,42,43,44,54,63,65,75] [] 2 (lp35b w ht s v0 v1 d0 d1 r ns x n sk sc sq sa sb m pk ps pa pb pc pd i) (j)=Rq35b w ht s v0 v1 d0 d1 r ns x n sk sc sq sa sb m pk ps pa pb pc pd i j:=by kernel_rfl
theorem peq35b (w ht s v0 v1 d0 d1 r:Int) (ns:Nat) (x:Nat→Int) (n:Nat) (sk sc sq sa sb:Nat→Int) (m:Nat) (pk ps pa pb pc pd:Nat→Int) (i:Nat) (j:Nat):(lp35b w ht s v0 v1 d0 d1 r ns x n sk sc sq sa sb m pk ps pa pb pc pd i).pre (j)=(j≤m ∧
 i<n ∧
  M.Gd.ok (M.Gd.mk w ht s v0 v1 d0 d1 r) ∧
   M.Gd.all (M.Gd.mk w ht s v0 v1 d0 d1 r) ns x ∧
    ns≤(64:Nat) ∧
     n≤(256:Nat) ∧
      (∀ (i:Nat),i<n→M.Gd.Sok (M.Gd.mk w ht s v0 v1 d0 d1 r) (M.Sc.mk (sk i) (sc i) (sq i) (sa i) (sb i))) ∧
       (∀ (i:Nat),i<m→M.Pk.Vd ns (M.Pk.mk (pk i) (ps i) (pa i) (pb i) (pc i) (pd i)))∧m≤(64:Nat)):=by kernel_rfl
theorem bq35b (w ht s v0 v1 d0 d1 r:Int) (ns:Nat) (x:Nat→Int) (n:Nat) (sk sc sq sa sb:Nat→Int) (m:Nat) (pk ps pa pb pc pd:Nat→Int) (i:Nat) (j:Nat) (hp:j≤m ∧
 i<n ∧
  M.Gd.ok (M.Gd.mk w ht s v0 v1 d0 d1 r) ∧
   M.Gd.all (M.Gd.mk w ht s v0 v1 d0 d1 r) ns x ∧
    ns≤(64:Nat) ∧
     n≤(256:Nat) ∧
      (∀ (i:Nat),i<n→M.Gd.Sok (M.Gd.mk w ht s v0 v1 d0 d1 r) (M.Sc.mk (sk i) (sc i) (sq i) (sa i) (sb i))) ∧
       (∀ (i:Nat),i<m→M.Pk.Vd ns (M.Pk.mk (pk i) (ps i) (pa i) (pb i) (pc i) (pd i)))∧m≤(64:Nat)):Rq35b w ht s v0 v1 d0 d1 r ns x n sk sc sq sa sb m pk ps pa pb pc pd i j:=by
 unfold Rq35b
 dsimp -iota -proj -eta -zeta only
 obtain ⟨h1,hi,hk,ha,hn,hn2,hs,hP,hm⟩:=id hp
 have hz:=hs i hi
 have r1:R64 ((j:Int)+1):=by unfold R64; omega
 have hlen:M.Gd.aln (M.Gd.mk w ht s v0 v1 d0 d1 r) x (M.Sc.mk (sk i) (sc i) (sq i) (sa i) (sb i)) (fun i=>M.Pk.mk (pk i) (ps i) (pa i) (pb i) (pc i) (pd i)) j≤j:=M.Gd.alS_len j
 simp only [Int.toNat_natCast,r1]
 by_cases hl:j<m
 ·have hl':(j:Int)<m:=by omega
  have hv:=hP j hl
  by_cases c:M.Gd.alB (M.Gd.mk w ht s v0 v1 d0 d1 r) x (M.Sc.mk (sk i) (sc i) (sq i) (sa i) (sb i)) ((fun i=>M.Pk.mk (pk i) (ps i) (pa i) (pb i) (pc i) (pd i)) j)=true
  ·obtain ⟨e1,e2⟩:=M.Gd.al_step (g:=(M.Gd.mk w ht s v0 v1 d0 d1 r)) (x:=x) (s:=(M.Sc.mk (sk i) (sc i) (sq i) (sa i) (sb i))) (P:=(fun i=>M.Pk.mk (pk i) (ps i) (pa i) (pb i) (pc i) (pd i))) c
   simp only [e1]
   generalize M.Gd.aln (M.Gd.mk w ht s v0 v1 d0 d1 r) x (M.Sc.mk (sk i) (sc i) (sq i) (sa i) (sb i)) (fun i=>M.Pk.mk (pk i) (ps i) (pa i) (pb i) (pc i) (pd i)) j=na at *
   have e3:∀ k,k<na+1→(bif decide (k<na) then (M.Gd.alR (M.Gd.mk w ht s v0 v1 d0 d1 r) x (M.Sc.mk (sk i) (sc i) (sq i) (sa i) (sb i)) (fun i=>M.Pk.mk (pk i) (ps i) (pa i) (pb i) (pc i) (pd i)) j k).1 else M.Gd.alL (M.Gd.mk w ht s v0 v1 d0 d1 r) x (M.Sc.mk (sk i) (sc i) (sq i) (sa i) (sb i)) ((fun i=>M.Pk.mk (pk i) (ps i) (pa i) (pb i) (pc i) (pd i)) j))=(M.Gd.alR (M.Gd.mk w ht s v0 v1 d0 d1 r) x (M.Sc.mk (sk i) (sc i) (sq i) (sa i) (sb i)) (fun i=>M.Pk.mk (pk i) (ps i) (pa i) (pb i) (pc i) (pd i)) (j+1) k).1∧(bif decide (k<na) then (M.Gd.alR (M.Gd.mk w ht s v0 v1 d0 d1 r) x (M.Sc.mk (sk i) (sc i) (sq i) (sa i) (sb i)) (fun i=>M.Pk.mk (pk i) (ps i) (pa i) (pb i) (pc i) (pd i)) j k).2 else M.Gd.alH (M.Gd.mk w ht s v0 v1 d0 d1 r) x (M.Sc.mk (sk i) (sc i) (sq i) (sa i) (sb i)) ((fun i=>M.Pk.mk (pk i) (ps i) (pa i) (pb i) (pc i) (pd i)) j))=(M.Gd.alR (M.Gd.mk w ht s v0 v1 d0 d1 r) x (M.Sc.mk (sk i) (sc i) (sq i) (sa i) (sb i)) (fun i=>M.Pk.mk (pk i) (ps i) (pa i) (pb i) (pc i) (pd i)) (j+1) k).2:=fun k hk2=>by
    rw [e2 k hk2]
    by_cases d1:k<na <;> simp [d1]
   simp [hl,hl',c,hk,ha,hn,hn2,hi,hz,hm,hv]
   repeat' apply And.intro
   all_goals first | omega | exact hP | exact hs | exact fun k hk2=>by simpa using e3 k hk2
  ·obtain ⟨e1,e2⟩:=M.Gd.al_stay (g:=(M.Gd.mk w ht s v0 v1 d0 d1 r)) (x:=x) (s:=(M.Sc.mk (sk i) (sc i) (sq i) (sa i) (sb i))) (P:=(fun i=>M.Pk.mk (pk i) (ps i) (pa i) (pb i) (pc i) (pd i))) c
   simp only [e1,e2]
   simp [hl,hl',c,hk,ha,hn,hn2,hi,hz,hm,hv]
   repeat' apply And.intro
   all_goals first | omega | exact hP | exact hs
 ·have e:j=m:=by omega
  subst e
  simp
theorem t35b (w ht s v0 v1 d0 d1 r:Int) (ns:Nat) (x:Nat→Int) (n:Nat) (sk sc sq sa sb:Nat→Int) (m:Nat) (pk ps pa pb pc pd:Nat→Int) (i:Nat) {F:Fence} (hF:FOK F) (Y:YEnv PP YS.none):∀ Q A H nx,loopT false Try.f35.ntmps 0 (lp35b w ht s v0 v1 d0 d1 r ns x n sk sc sq sa sb m pk ps pa pb pc pd i) (fun _ _ _=>(0:Nat)) Q A H nx→WPS Y F Try.f35.ntmps 0 (.block 2 (blkAt 2 Try.f35)) Q A H nx :=
 loopW (E:=[]) (.nil) (O:=[(79,pureE e79)]) (.cons (pureE_ok s79) (.nil)) (ck:=true) (L:=[0,1,2,3,4,7,8,9,10,11,12,14,15,17,18,19,21,30,32,33,34,35,40,41,42,43,44,54,63,65,75]) (f:=Try.f35) (m:=0) (id:=2) (l:=(lp35b w ht s v0 v1 d0 d1 r ns x n sk sc sq sa sb m pk ps pa pb pc pd i)) (LI:=fun i=>[]) Y hF (by kernel_rfl) (fun _=>.nil) (by
  rintro j hp
  exact Hold.of (q35b w ht s v0 v1 d0 d1 r ns x n sk sc sq sa sb m pk ps pa pb pc pd i j) (bq35b w ht s v0 v1 d0 d1 r ns x n sk sc sq sa sb m pk ps pa pb pc pd i j ((peq35b w ht s v0 v1 d0 d1 r ns x n sk sc sq sa sb m pk ps pa pb pc pd i j).mp hp)))
def lp35r (w ht s v0 v1 d0 d1 r:Int) (ns:Nat) (x:Nat→Int) (n:Nat) (sk sc sq sa sb:Nat→Int) (m:Nat) (pk ps pa pb pc pd:Nat→Int) (i:Nat):RangeS where
 ι:=Unit
 pre _ _:=i<n∧M.Gd.ok (M.Gd.mk w ht s v0 v1 d0 d1 r)∧M.Gd.all (M.Gd.mk w ht s v0 v1 d0 d1 r) ns x∧ns≤64∧n≤256∧(∀ i,i<n→M.Gd.Sok (M.Gd.mk w ht s v0 v1 d0 d1 r) ((fun i=>M.Sc.mk (sk i) (sc i) (sq i) (sa i) (sb i)) i))∧(∀ i,i<m→M.Pk.Vd ns ((fun i=>M.Pk.mk (pk i) (ps i) (pa i) (pb i) (pc i) (pd i)) i))∧m≤64
 cnt _:=(M.stK (sa i) (sb i) (M.tuQ (sa i) (sb i) (fun k=>(M.Gd.alR (M.Gd.mk w ht s v0 v1 d0 d1 r) x (M.Sc.mk (sk i) (sc i) (sq i) (sa i) (sb i)) (fun i=>M.Pk.mk (pk i) (ps i) (pa i) (pb i) (pc i) (pd i)) m k).1) (fun k=>(M.Gd.alR (M.Gd.mk w ht s v0 v1 d0 d1 r) x (M.Sc.mk (sk i) (sc i) (sq i) (sa i) (sb i)) (fun i=>M.Pk.mk (pk i) (ps i) (pa i) (pb i) (pc i) (pd i)) m k).2) (M.Gd.aln (M.Gd.mk w ht s v0 v1 d0 d1 r) x (M.Sc.mk (sk i) (sc i) (sq i) (sa i) (sb i)) (fun i=>M.Pk.mk (pk i) (ps i) (pa i) (pb i) (pc i) (pd i)) m)) (M.tlen (sa i) (sb i) (fun k=>(M.Gd.alR (M.Gd.mk w ht s v0 v1 d0 d1 r) x (M.Sc.mk (sk i) (sc i) (sq i) (sa i) (sb i)) (fun i=>M.Pk.mk (pk i) (ps i) (pa i) (pb i) (pc i) (pd i)) m k).1) (fun k=>(M.Gd.alR (M.Gd.mk w ht s v0 v1 d0 d1 r) x (M.Sc.mk (sk i) (sc i) (sq i) (sa i) (sb i)) (fun i=>M.Pk.mk (pk i) (ps i) (pa i) (pb i) (pc i) (pd i)) m k).2) (M.Gd.aln (M.Gd.mk w ht s v0 v1 d0 d1 r) x (M.Sc.mk (sk i) (sc i) (sq i) (sa i) (sb i)) (fun i=>M.Pk.mk (pk i) (ps i) (pa i) (pb i) (pc i) (pd i)) m)))
 f _ k:=[.agg [SI (M.ysR (M.stY (sa i) (sb i) (M.tuQ (sa i) (sb i) (fun k=>(M.Gd.alR (M.Gd.mk w ht s v0 v1 d0 d1 r) x (M.Sc.mk (sk i) (sc i) (sq i) (sa i) (sb i)) (fun i=>M.Pk.mk (pk i) (ps i) (pa i) (pb i) (pc i) (pd i)) m k).1) (fun k=>(M.Gd.alR (M.Gd.mk w ht s v0 v1 d0 d1 r) x (M.Sc.mk (sk i) (sc i) (sq i) (sa i) (sb i)) (fun i=>M.Pk.mk (pk i) (ps i) (pa i) (pb i) (pc i) (pd i)) m k).2) (M.Gd.aln (M.Gd.mk w ht s v0 v1 d0 d1 r) x (M.Sc.mk (sk i) (sc i) (sq i) (sa i) (sb i)) (fun i=>M.Pk.mk (pk i) (ps i) (pa i) (pb i) (pc i) (pd i)) m)) (M.tlen (sa i) (sb i) (fun k=>(M.Gd.alR (M.Gd.mk w ht s v0 v1 d0 d1 r) x (M.Sc.mk (sk i) (sc i) (sq i) (sa i) (sb i)) (fun i=>M.Pk.mk (pk i) (ps i) (pa i) (pb i) (pc i) (pd i)) m k).1) (fun k=>(M.Gd.alR (M.Gd.mk w ht s v0 v1 d0 d1 r) x (M.Sc.mk (sk i) (sc i) (sq i) (sa i) (sb i)) (fun i=>M.Pk.mk (pk i) (ps i) (pa i) (pb i) (pc i) (pd i)) m k).2) (M.Gd.aln (M.Gd.mk w ht s v0 v1 d0 d1 r) x (M.Sc.mk (sk i) (sc i) (sq i) (sa i) (sb i)) (fun i=>M.Pk.mk (pk i) (ps i) (pa i) (pb i) (pc i) (pd i)) m))) k).1,SI (M.ysR (M.stY (sa i) (sb i) (M.tuQ (sa i) (sb i) (fun k=>(M.Gd.alR (M.Gd.mk w ht s v0 v1 d0 d1 r) x (M.Sc.mk (sk i) (sc i) (sq i) (sa i) (sb i)) (fun i=>M.Pk.mk (pk i) (ps i) (pa i) (pb i) (pc i) (pd i)) m k).1) (fun k=>(M.Gd.alR (M.Gd.mk w ht s v0 v1 d0 d1 r) x (M.Sc.mk (sk i) (sc i) (sq i) (sa i) (sb i)) (fun i=>M.Pk.mk (pk i) (ps i) (pa i) (pb i) (pc i) (pd i)) m k).2) (M.Gd.aln (M.Gd.mk w ht s v0 v1 d0 d1 r) x (M.Sc.mk (sk i) (sc i) (sq i) (sa i) (sb i)) (fun i=>M.Pk.mk (pk i) (ps i) (pa i) (pb i) (pc i) (pd i)) m)) (M.tlen (sa i) (sb i) (fun k=>(M.Gd.alR (M.Gd.mk w ht s v0 v1 d0 d1 r) x (M.Sc.mk (sk i) (sc i) (sq i) (sa i) (sb i)) (fun i=>M.Pk.mk (pk i) (ps i) (pa i) (pb i) (pc i) (pd i)) m k).1) (fun k=>(M.Gd.alR (M.Gd.mk w ht s v0 v1 d0 d1 r) x (M.Sc.mk (sk i) (sc i) (sq i) (sa i) (sb i)) (fun i=>M.Pk.mk (pk i) (ps i) (pa i) (pb i) (pc i) (pd i)) m k).2) (M.Gd.aln (M.Gd.mk w ht s v0 v1 d0 d1 r) x (M.Sc.mk (sk i) (sc i) (sq i) (sa i) (sb i)) (fun i=>M.Pk.mk (pk i) (ps i) (pa i) (pb i) (pc i) (pd i)) m))) k).2.1],SI (M.ysR (M.stY (sa i) (sb i) (M.tuQ (sa i) (sb i) (fun k=>(M.Gd.alR (M.Gd.mk w ht s v0 v1 d0 d1 r) x (M.Sc.mk (sk i) (sc i) (sq i) (sa i) (sb i)) (fun i=>M.Pk.mk (pk i) (ps i) (pa i) (pb i) (pc i) (pd i)) m k).1) (fun k=>(M.Gd.alR (M.Gd.mk w ht s v0 v1 d0 d1 r) x (M.Sc.mk (sk i) (sc i) (sq i) (sa i) (sb i)) (fun i=>M.Pk.mk (pk i) (ps i) (pa i) (pb i) (pc i) (pd i)) m k).2) (M.Gd.aln (M.Gd.mk w ht s v0 v1 d0 d1 r) x (M.Sc.mk (sk i) (sc i) (sq i) (sa i) (sb i)) (fun i=>M.Pk.mk (pk i) (ps i) (pa i) (pb i) (pc i) (pd i)) m)) (M.tlen (sa i) (sb i) (fun k=>(M.Gd.alR (M.Gd.mk w ht s v0 v1 d0 d1 r) x (M.Sc.mk (sk i) (sc i) (sq i) (sa i) (sb i)) (fun i=>M.Pk.mk (pk i) (ps i) (pa i) (pb i) (pc i) (pd i)) m k).1) (fun k=>(M.Gd.alR (M.Gd.mk w ht s v0 v1 d0 d1 r) x (M.Sc.mk (sk i) (sc i) (sq i) (sa i) (sb i)) (fun i=>M.Pk.mk (pk i) (ps i) (pa i) (pb i) (pc i) (pd i)) m k).2) (M.Gd.aln (M.Gd.mk w ht s v0 v1 d0 d1 r) x (M.Sc.mk (sk i) (sc i) (sq i) (sa i) (sb i)) (fun i=>M.Pk.mk (pk i) (ps i) (pa i) (pb i) (pc i) (pd i)) m))) k).2.2]
 SA _:=[(7,.ptr 0 0),(10,.ptr 1 0),(12,.ptr 2 0),(32,.sl 5 n (fun j=>[SI (sk j),SI (sc j),SI (sq j),SI (sa j),SI (sb j)])),(33,SI n),(34,SI i),(63,.fn 100 [] [.sptr 2 1 (fun _=>[SI (sa i),SI (sb i)]) 0 0,.sptr 1 1 (fun _=>[.sl 2 (M.Gd.aln (M.Gd.mk w ht s v0 v1 d0 d1 r) x (M.Sc.mk (sk i) (sc i) (sq i) (sa i) (sb i)) (fun i=>M.Pk.mk (pk i) (ps i) (pa i) (pb i) (pc i) (pd i)) m) (fun k=>[SI (M.Gd.alR (M.Gd.mk w ht s v0 v1 d0 d1 r) x (M.Sc.mk (sk i) (sc i) (sq i) (sa i) (sb i)) (fun i=>M.Pk.mk (pk i) (ps i) (pa i) (pb i) (pc i) (pd i)) m k).1,SI (M.Gd.alR (M.Gd.mk w ht s v0 v1 d0 d1 r) x (M.Sc.mk (sk i) (sc i) (sq i) (sa i) (sb i)) (fun i=>M.Pk.mk (pk i) (ps i) (pa i) (pb i) (pc i) (pd i)) m k).2])]) 0 0])]
 mf:=3
 n0:=3
 SH _ k:=[(0,.cells [.sl 6 m (fun j=>[SI (pk j),SI (ps j),SI (pa j),SI (pb j),SI (pc j),SI (pd j)])]),(1,.cells [SI w,SI ht,SI s,SI v0,SI v1,SI d0,SI d1,SI r,.sl 1 ns (fun k=>[SI (x k)]),SI 0]),(2,.cells [SI (M.agK m (M.Gd.agA (M.Gd.mk w ht s v0 v1 d0 d1 r) x (fun i=>M.Sc.mk (sk i) (sc i) (sq i) (sa i) (sb i)) m (fun i=>M.Pk.mk (pk i) (ps i) (pa i) (pb i) (pc i) (pd i)) i) (M.stY (sa i) (sb i) (M.tuQ (sa i) (sb i) (fun k=>(M.Gd.alR (M.Gd.mk w ht s v0 v1 d0 d1 r) x (M.Sc.mk (sk i) (sc i) (sq i) (sa i) (sb i)) (fun i=>M.Pk.mk (pk i) (ps i) (pa i) (pb i) (pc i) (pd i)) m k).1) (fun k=>(M.Gd.alR (M.Gd.mk w ht s v0 v1 d0 d1 r) x (M.Sc.mk (sk i) (sc i) (sq i) (sa i) (sb i)) (fun i=>M.Pk.mk (pk i) (ps i) (pa i) (pb i) (pc i) (pd i)) m k).2) (M.Gd.aln (M.Gd.mk w ht s v0 v1 d0 d1 r) x (M.Sc.mk (sk i) (sc i) (sq i) (sa i) (sb i)) (fun i=>M.Pk.mk (pk i) (ps i) (pa i) (pb i) (pc i) (pd i)) m)) (M.tlen (sa i) (sb i) (fun k=>(M.Gd.alR (M.Gd.mk w ht s v0 v1 d0 d1 r) x (M.Sc.mk (sk i) (sc i) (sq i) (sa i) (sb i)) (fun i=>M.Pk.mk (pk i) (ps i) (pa i) (pb i) (pc i) (pd i)) m k).1) (fun k=>(M.Gd.alR (M.Gd.mk w ht s v0 v1 d0 d1 r) x (M.Sc.mk (sk i) (sc i) (sq i) (sa i) (sb i)) (fun i=>M.Pk.mk (pk i) (ps i) (pa i) (pb i) (pc i) (pd i)) m k).2) (M.Gd.aln (M.Gd.mk w ht s v0 v1 d0 d1 r) x (M.Sc.mk (sk i) (sc i) (sq i) (sa i) (sb i)) (fun i=>M.Pk.mk (pk i) (ps i) (pa i) (pb i) (pc i) (pd i)) m))) k)])]
def Rq35r (w ht s v0 v1 d0 d1 r:Int) (ns:Nat) (x:Nat→Int) (n:Nat) (sk sc sq sa sb:Nat→Int) (m:Nat) (pk ps pa pb pc pd:Nat→Int) (i:Nat)  (k:Nat):Prop:=(fun (z1:Int) (z0:List (Int × Int × Int)) (z3 z4 z7:Prop)=>(fun (z5:Int) (z2:Prop)=>(fun (z6:Bool) (z8:Prop)=>z8∧z8∧z8∧(z2→R64 z5)∧z8∧z8∧(decide (M.agK m z1 z0 k<(0:Int))=false→z2)∧(z6=true→R64 z5∧z3∧z4∧w=w∧ht=ht∧s=s∧v0=v0∧v1=v1∧d0=d0∧d1=d1∧r=r∧z7∧(0:Int)=(0:Int)∧z5=M.agK m z1 z0 (k+(1:Nat))∧True)∧(z6=false→z3∧z4∧w=w∧ht=ht∧s=s∧v0=v0∧v1=v1∧d0=d0∧d1=d1∧r=r∧z7∧(0:Int)=(0:Int)∧M.agK m z1 z0 k=M.agK m z1 z0 (k+(1:Nat))∧True)) (bif decide (M.agK m z1 z0 k<(0:Int)) then true else decide (z5<M.agK m z1 z0 k)) (z2→z2)) ((↑m:Int)-(M.ysR z0 k).2.2) ((!decide (M.agK m z1 z0 k<(0:Int)))=true)) (M.Gd.agA (M.Gd.mk w ht s v0 v1 d0 d1 r) x (fun i=>M.Sc.mk (sk i) (sc i) (sq i) (sa i) (sb i)) m (fun i=>M.Pk.mk (pk i) (ps i) (pa i) (pb i) (pc i) (pd i)) i) (M.stY (sa i) (sb i) (M.tuQ (sa i) (sb i) (fun k=>(M.Gd.alR (M.Gd.mk w ht s v0 v1 d0 d1 r) x (M.Sc.mk (sk i) (sc i) (sq i) (sa i) (sb i)) (fun i=>M.Pk.mk (pk i) (ps i) (pa i) (pb i) (pc i) (pd i)) m k).1) (fun k=>(M.Gd.alR (M.Gd.mk w ht s v0 v1 d0 d1 r) x (M.Sc.mk (sk i) (sc i) (sq i) (sa i) (sb i)) (fun i=>M.Pk.mk (pk i) (ps i) (pa i) (pb i) (pc i) (pd i)) m k).2) (M.Gd.aln (M.Gd.mk w ht s v0 v1 d0 d1 r) x (M.Sc.mk (sk i) (sc i) (sq i) (sa i) (sb i)) (fun i=>M.Pk.mk (pk i) (ps i) (pa i) (pb i) (pc i) (pd i)) m)) (M.tlen (sa i) (sb i) (fun k=>(M.Gd.alR (M.Gd.mk w ht s v0 v1 d0 d1 r) x (M.Sc.mk (sk i) (sc i) (sq i) (sa i) (sb i)) (fun i=>M.Pk.mk (pk i) (ps i) (pa i) (pb i) (pc i) (pd i)) m k).1) (fun k=>(M.Gd.alR (M.Gd.mk w ht s v0 v1 d0 d1 r) x (M.Sc.mk (sk i) (sc i) (sq i) (sa i) (sb i)) (fun i=>M.Pk.mk (pk i) (ps i) (pa i) (pb i) (pc i) (pd i)) m k).2) (M.Gd.aln (M.Gd.mk w ht s v0 v1 d0 d1 r) x (M.Sc.mk (sk i) (sc i) (sq i) (sa i) (sb i)) (fun i=>M.Pk.mk (pk i) (ps i) (pa i) (pb i) (pc i) (pd i)) m))) (i<n∧M.Gd.ok (M.Gd.mk w ht s v0 v1 d0 d1 r)∧M.Gd.all (M.Gd.mk w ht s v0 v1 d0 d1 r) ns x∧ns≤(64:Nat)∧n≤(256:Nat)∧(∀ (i:Nat),i<n→M.Gd.Sok (M.Gd.mk w ht s v0 v1 d0 d1 r) (M.Sc.mk (sk i) (sc i) (sq i) (sa i) (sb i)))∧(∀ (i:Nat),i<m→M.Pk.Vd ns (M.Pk.mk (pk i) (ps i) (pa i) (pb i) (pc i) (pd i)))∧m≤(64:Nat)) (m=m∧∀ (k:Nat),k<m→pk k=pk k∧ps k=ps k∧pa k=pa k∧pb k=pb k∧pc k=pc k∧pd k=pd k) (ns=ns∧∀ (k:Nat),k<ns→x k=x k)
theorem q35r (w ht s v0 v1 d0 d1 r:Int) (ns:Nat) (x:Nat→Int) (n:Nat) (sk sc sq sa sb:Nat→Int) (m:Nat) (pk ps pa pb pc pd:Nat→Int) (i:Nat)  (k:Nat):VR true [] [] YS.none Try.f35 [0,1,2,3,4,7,8,9,10,11,12,14,15,17,18,19,21,30,32,33,34,35,40,41,42,43,44,54,63,65,75] [] 4 (lp35r w ht s v0 v1 d0 d1 r ns x n sk sc sq sa sb m pk ps pa pb pc pd i) (()) k=Rq35r w ht s v0 v1 d0 d1 r ns x n sk sc sq sa sb m pk ps pa pb pc pd i k:=by kernel_rfl
theorem peq35r (w ht s v0 v1 d0 d1 r:Int) (ns:Nat) (x:Nat→Int) (n:Nat) (sk sc sq sa sb:Nat→Int) (m:Nat) (pk ps pa pb pc pd:Nat→Int) (i:Nat)  (k:Nat):(lp35r w ht s v0 v1 d0 d1 r ns x n sk sc sq sa sb m pk ps pa pb pc pd i).pre (()) k=(i<n ∧
 M.Gd.ok (M.Gd.mk w ht s v0 v1 d0 d1 r) ∧
  M.Gd.all (M.Gd.mk w ht s v0 v1 d0 d1 r) ns x ∧
   ns≤(64:Nat) ∧
    n≤(256:Nat) ∧
     (∀ (i:Nat),i<n→M.Gd.Sok (M.Gd.mk w ht s v0 v1 d0 d1 r) (M.Sc.mk (sk i) (sc i) (sq i) (sa i) (sb i))) ∧
      (∀ (i:Nat),i<m→M.Pk.Vd ns (M.Pk.mk (pk i) (ps i) (pa i) (pb i) (pc i) (pd i)))∧m≤(64:Nat)):=by kernel_rfl
theorem ceq35r (w ht s v0 v1 d0 d1 r:Int) (ns:Nat) (x:Nat→Int) (n:Nat) (sk sc sq sa sb:Nat→Int) (m:Nat) (pk ps pa pb pc pd:Nat→Int) (i:Nat)  (k:Nat):(k<(lp35r w ht s v0 v1 d0 d1 r ns x n sk sc sq sa sb m pk ps pa pb pc pd i).cnt (()))=(k <
 M.stK (sa i) (sb i)
  (M.tuQ (sa i) (sb i)
   (fun k =>
    (M.Gd.alR (M.Gd.mk w ht s v0 v1 d0 d1 r) x (M.Sc.mk (sk i) (sc i) (sq i) (sa i) (sb i))
      (fun i=>M.Pk.mk (pk i) (ps i) (pa i) (pb i) (pc i) (pd i)) m k).1)
   (fun k =>
    (M.Gd.alR (M.Gd.mk w ht s v0 v1 d0 d1 r) x (M.Sc.mk (sk i) (sc i) (sq i) (sa i) (sb i))
      (fun i=>M.Pk.mk (pk i) (ps i) (pa i) (pb i) (pc i) (pd i)) m k).2)
   (M.Gd.aln (M.Gd.mk w ht s v0 v1 d0 d1 r) x (M.Sc.mk (sk i) (sc i) (sq i) (sa i) (sb i))
    (fun i=>M.Pk.mk (pk i) (ps i) (pa i) (pb i) (pc i) (pd i)) m))
  (M.tlen (sa i) (sb i)
   (fun k =>
    (M.Gd.alR (M.Gd.mk w ht s v0 v1 d0 d1 r) x (M.Sc.mk (sk i) (sc i) (sq i) (sa i) (sb i))
      (fun i=>M.Pk.mk (pk i) (ps i) (pa i) (pb i) (pc i) (pd i)) m k).1)
   (fun k =>
    (M.Gd.alR (M.Gd.mk w ht s v0 v1 d0 d1 r) x (M.Sc.mk (sk i) (sc i) (sq i) (sa i) (sb i))
      (fun i=>M.Pk.mk (pk i) (ps i) (pa i) (pb i) (pc i) (pd i)) m k).2)
   (M.Gd.aln (M.Gd.mk w ht s v0 v1 d0 d1 r) x (M.Sc.mk (sk i) (sc i) (sq i) (sa i) (sb i))
    (fun i=>M.Pk.mk (pk i) (ps i) (pa i) (pb i) (pc i) (pd i)) m))):=by kernel_rfl
theorem bq35r (w ht s v0 v1 d0 d1 r:Int) (ns:Nat) (x:Nat→Int) (n:Nat) (sk sc sq sa sb:Nat→Int) (m:Nat) (pk ps pa pb pc pd:Nat→Int) (i:Nat)  (k:Nat) (hk:k <
 M.stK (sa i) (sb i)
  (M.tuQ (sa i) (sb i)
   (fun k =>
    (M.Gd.alR (M.Gd.mk w ht s v0 v1 d0 d1 r) x (M.Sc.mk (sk i) (sc i) (sq i) (sa i) (sb i))
      (fun i=>M.Pk.mk (pk i) (ps i) (pa i) (pb i) (pc i) (pd i)) m k).1)
   (fun k =>
    (M.Gd.alR (M.Gd.mk w ht s v0 v1 d0 d1 r) x (M.Sc.mk (sk i) (sc i) (sq i) (sa i) (sb i))
      (fun i=>M.Pk.mk (pk i) (ps i) (pa i) (pb i) (pc i) (pd i)) m k).2)
   (M.Gd.aln (M.Gd.mk w ht s v0 v1 d0 d1 r) x (M.Sc.mk (sk i) (sc i) (sq i) (sa i) (sb i))
    (fun i=>M.Pk.mk (pk i) (ps i) (pa i) (pb i) (pc i) (pd i)) m))
  (M.tlen (sa i) (sb i)
   (fun k =>
    (M.Gd.alR (M.Gd.mk w ht s v0 v1 d0 d1 r) x (M.Sc.mk (sk i) (sc i) (sq i) (sa i) (sb i))
      (fun i=>M.Pk.mk (pk i) (ps i) (pa i) (pb i) (pc i) (pd i)) m k).1)
   (fun k =>
    (M.Gd.alR (M.Gd.mk w ht s v0 v1 d0 d1 r) x (M.Sc.mk (sk i) (sc i) (sq i) (sa i) (sb i))
      (fun i=>M.Pk.mk (pk i) (ps i) (pa i) (pb i) (pc i) (pd i)) m k).2)
   (M.Gd.aln (M.Gd.mk w ht s v0 v1 d0 d1 r) x (M.Sc.mk (sk i) (sc i) (sq i) (sa i) (sb i))
    (fun i=>M.Pk.mk (pk i) (ps i) (pa i) (pb i) (pc i) (pd i)) m))) (hp:i<n ∧
 M.Gd.ok (M.Gd.mk w ht s v0 v1 d0 d1 r) ∧
  M.Gd.all (M.Gd.mk w ht s v0 v1 d0 d1 r) ns x ∧
   ns≤(64:Nat) ∧
    n≤(256:Nat) ∧
     (∀ (i:Nat),i<n→M.Gd.Sok (M.Gd.mk w ht s v0 v1 d0 d1 r) (M.Sc.mk (sk i) (sc i) (sq i) (sa i) (sb i))) ∧
      (∀ (i:Nat),i<m→M.Pk.Vd ns (M.Pk.mk (pk i) (ps i) (pa i) (pb i) (pc i) (pd i)))∧m≤(64:Nat)):Rq35r w ht s v0 v1 d0 d1 r ns x n sk sc sq sa sb m pk ps pa pb pc pd i k:=by
 unfold Rq35r
 dsimp -iota -proj -eta -zeta only
 obtain ⟨hi,hkk,ha,hn,hn2,hs,hP,hm⟩:=id hp
 have e:=M.agK_succ (m:=m) (r:=(M.Gd.agA (M.Gd.mk w ht s v0 v1 d0 d1 r) x (fun i=>M.Sc.mk (sk i) (sc i) (sq i) (sa i) (sb i)) m (fun i=>M.Pk.mk (pk i) (ps i) (pa i) (pb i) (pc i) (pd i)) i)) (L:=(M.stY (sa i) (sb i) (M.tuQ (sa i) (sb i) (fun k=>(M.Gd.alR (M.Gd.mk w ht s v0 v1 d0 d1 r) x (M.Sc.mk (sk i) (sc i) (sq i) (sa i) (sb i)) (fun i=>M.Pk.mk (pk i) (ps i) (pa i) (pb i) (pc i) (pd i)) m k).1) (fun k=>(M.Gd.alR (M.Gd.mk w ht s v0 v1 d0 d1 r) x (M.Sc.mk (sk i) (sc i) (sq i) (sa i) (sb i)) (fun i=>M.Pk.mk (pk i) (ps i) (pa i) (pb i) (pc i) (pd i)) m k).2) (M.Gd.aln (M.Gd.mk w ht s v0 v1 d0 d1 r) x (M.Sc.mk (sk i) (sc i) (sq i) (sa i) (sb i)) (fun i=>M.Pk.mk (pk i) (ps i) (pa i) (pb i) (pc i) (pd i)) m)) (M.tlen (sa i) (sb i) (fun k=>(M.Gd.alR (M.Gd.mk w ht s v0 v1 d0 d1 r) x (M.Sc.mk (sk i) (sc i) (sq i) (sa i) (sb i)) (fun i=>M.Pk.mk (pk i) (ps i) (pa i) (pb i) (pc i) (pd i)) m k).1) (fun k=>(M.Gd.alR (M.Gd.mk w ht s v0 v1 d0 d1 r) x (M.Sc.mk (sk i) (sc i) (sq i) (sa i) (sb i)) (fun i=>M.Pk.mk (pk i) (ps i) (pa i) (pb i) (pc i) (pd i)) m k).2) (M.Gd.aln (M.Gd.mk w ht s v0 v1 d0 d1 r) x (M.Sc.mk (sk i) (sc i) (sq i) (sa i) (sb i)) (fun i=>M.Pk.mk (pk i) (ps i) (pa i) (pb i) (pc i) (pd i)) m)))) (k:=k) hk
 simp only [e]
 unfold M.agO
 have hz:=hs i hi
 obtain ⟨z1,z2,z3,z4,z5,z6⟩:=id hz
 simp only at z5
 have hy:=M.ys_val (u:=(fun k=>(M.Gd.alR (M.Gd.mk w ht s v0 v1 d0 d1 r) x (M.Sc.mk (sk i) (sc i) (sq i) (sa i) (sb i)) (fun i=>M.Pk.mk (pk i) (ps i) (pa i) (pb i) (pc i) (pd i)) m k).1)) (v:=(fun k=>(M.Gd.alR (M.Gd.mk w ht s v0 v1 d0 d1 r) x (M.Sc.mk (sk i) (sc i) (sq i) (sa i) (sb i)) (fun i=>M.Pk.mk (pk i) (ps i) (pa i) (pb i) (pc i) (pd i)) m k).2)) (m:=m) z5 (show (M.Gd.aln (M.Gd.mk w ht s v0 v1 d0 d1 r) x (M.Sc.mk (sk i) (sc i) (sq i) (sa i) (sb i)) (fun i=>M.Pk.mk (pk i) (ps i) (pa i) (pb i) (pc i) (pd i)) m)≤m from M.Gd.alS_len (g:=(M.Gd.mk w ht s v0 v1 d0 d1 r)) (x:=x) (s:=(M.Sc.mk (sk i) (sc i) (sq i) (sa i) (sb i))) (P:=(fun i=>M.Pk.mk (pk i) (ps i) (pa i) (pb i) (pc i) (pd i))) m) hk
 generalize M.ysR (M.stY (sa i) (sb i) (M.tuQ (sa i) (sb i) (fun k=>(M.Gd.alR (M.Gd.mk w ht s v0 v1 d0 d1 r) x (M.Sc.mk (sk i) (sc i) (sq i) (sa i) (sb i)) (fun i=>M.Pk.mk (pk i) (ps i) (pa i) (pb i) (pc i) (pd i)) m k).1) (fun k=>(M.Gd.alR (M.Gd.mk w ht s v0 v1 d0 d1 r) x (M.Sc.mk (sk i) (sc i) (sq i) (sa i) (sb i)) (fun i=>M.Pk.mk (pk i) (ps i) (pa i) (pb i) (pc i) (pd i)) m k).2) (M.Gd.aln (M.Gd.mk w ht s v0 v1 d0 d1 r) x (M.Sc.mk (sk i) (sc i) (sq i) (sa i) (sb i)) (fun i=>M.Pk.mk (pk i) (ps i) (pa i) (pb i) (pc i) (pd i)) m)) (M.tlen (sa i) (sb i) (fun k=>(M.Gd.alR (M.Gd.mk w ht s v0 v1 d0 d1 r) x (M.Sc.mk (sk i) (sc i) (sq i) (sa i) (sb i)) (fun i=>M.Pk.mk (pk i) (ps i) (pa i) (pb i) (pc i) (pd i)) m k).1) (fun k=>(M.Gd.alR (M.Gd.mk w ht s v0 v1 d0 d1 r) x (M.Sc.mk (sk i) (sc i) (sq i) (sa i) (sb i)) (fun i=>M.Pk.mk (pk i) (ps i) (pa i) (pb i) (pc i) (pd i)) m k).2) (M.Gd.aln (M.Gd.mk w ht s v0 v1 d0 d1 r) x (M.Sc.mk (sk i) (sc i) (sq i) (sa i) (sb i)) (fun i=>M.Pk.mk (pk i) (ps i) (pa i) (pb i) (pc i) (pd i)) m))) k=z at *
 generalize M.agK m (M.Gd.agA (M.Gd.mk w ht s v0 v1 d0 d1 r) x (fun i=>M.Sc.mk (sk i) (sc i) (sq i) (sa i) (sb i)) m (fun i=>M.Pk.mk (pk i) (ps i) (pa i) (pb i) (pc i) (pd i)) i) (M.stY (sa i) (sb i) (M.tuQ (sa i) (sb i) (fun k=>(M.Gd.alR (M.Gd.mk w ht s v0 v1 d0 d1 r) x (M.Sc.mk (sk i) (sc i) (sq i) (sa i) (sb i)) (fun i=>M.Pk.mk (pk i) (ps i) (pa i) (pb i) (pc i) (pd i)) m k).1) (fun k=>(M.Gd.alR (M.Gd.mk w ht s v0 v1 d0 d1 r) x (M.Sc.mk (sk i) (sc i) (sq i) (sa i) (sb i)) (fun i=>M.Pk.mk (pk i) (ps i) (pa i) (pb i) (pc i) (pd i)) m k).2) (M.Gd.aln (M.Gd.mk w ht s v0 v1 d0 d1 r) x (M.Sc.mk (sk i) (sc i) (sq i) (sa i) (sb i)) (fun i=>M.Pk.mk (pk i) (ps i) (pa i) (pb i) (pc i) (pd i)) m)) (M.tlen (sa i) (sb i) (fun k=>(M.Gd.alR (M.Gd.mk w ht s v0 v1 d0 d1 r) x (M.Sc.mk (sk i) (sc i) (sq i) (sa i) (sb i)) (fun i=>M.Pk.mk (pk i) (ps i) (pa i) (pb i) (pc i) (pd i)) m k).1) (fun k=>(M.Gd.alR (M.Gd.mk w ht s v0 v1 d0 d1 r) x (M.Sc.mk (sk i) (sc i) (sq i) (sa i) (sb i)) (fun i=>M.Pk.mk (pk i) (ps i) (pa i) (pb i) (pc i) (pd i)) m k).2) (M.Gd.aln (M.Gd.mk w ht s v0 v1 d0 d1 r) x (M.Sc.mk (sk i) (sc i) (sq i) (sa i) (sb i)) (fun i=>M.Pk.mk (pk i) (ps i) (pa i) (pb i) (pc i) (pd i)) m))) k=u at *
 have r1:R64 ((m:Int)-z.2.2):=by unfold R64; omega
 by_cases c:u<0
 ·simp [c,r1,hi,hkk,ha,hn,hn2,hm]
  repeat' apply And.intro
  all_goals first | omega | exact hP | exact hs
 ·by_cases c2:(m:Int)-z.2.2<u
  ·simp [c,c2,r1,hi,hkk,ha,hn,hn2,hm]
   repeat' apply And.intro
   all_goals first | omega | exact hP | exact hs
  ·simp [c,c2,r1,hi,hkk,ha,hn,hn2,hm]
   repeat' apply And.intro
   all_goals first | omega | exact hP | exact hs
theorem t35r (w ht s v0 v1 d0 d1 r:Int) (ns:Nat) (x:Nat→Int) (n:Nat) (sk sc sq sa sb:Nat→Int) (m:Nat) (pk ps pa pb pc pd:Nat→Int) (i:Nat) {F:Fence} (hF:FOK F) (hr:F.round=none) (Y:YEnv PP YS.none):∀ Q A H nx,rangeT false Try.f35.ntmps 0 (rfFn (blkAt 4 Try.f35)) 100 j100 (lp35r w ht s v0 v1 d0 d1 r ns x n sk sc sq sa sb m pk ps pa pb pc pd i) (fun _ _ _=>()) Q A H nx→WPS Y F Try.f35.ntmps 0 (.block 4 (blkAt 4 Try.f35)) Q A H nx :=
 rangeW (E:=[]) (.nil) (O:=[]) (.nil) (ck:=true) (L:=[0,1,2,3,4,7,8,9,10,11,12,14,15,17,18,19,21,30,32,33,34,35,40,41,42,43,44,54,63,65,75]) (f:=Try.f35) (m:=0) (id:=4) (l:=(lp35r w ht s v0 v1 d0 d1 r ns x n sk sc sq sa sb m pk ps pa pb pc pd i)) (LI:=[]) Y hF hr i100 (by kernel_rfl) (fun _ _=>by kernel_rfl) (by kernel_rfl) (fun _=>.nil) (fun _=>.nil) (by
  rintro ⟨⟩ k hk hp
  exact Hold.of (q35r w ht s v0 v1 d0 d1 r ns x n sk sc sq sa sb m pk ps pa pb pc pd i k) (bq35r w ht s v0 v1 d0 d1 r ns x n sk sc sq sa sb m pk ps pa pb pc pd i k ((ceq35r w ht s v0 v1 d0 d1 r ns x n sk sc sq sa sb m pk ps pa pb pc pd i k).mp hk) ((peq35r w ht s v0 v1 d0 d1 r ns x n sk sc sq sa sb m pk ps pa pb pc pd i k).mp hp)))
def lp35 (w ht s v0 v1 d0 d1 r:Int) (ns:Nat) (x:Nat→Int) (n:Nat) (sk sc sq sa sb:Nat→Int) (m:Nat) (pk ps pa pb pc pd:Nat→Int):LoopS where
 ι:=Nat
 β:=Unit
 pre i:=i≤n∧M.Gd.ok (M.Gd.mk w ht s v0 v1 d0 d1 r)∧M.Gd.all (M.Gd.mk w ht s v0 v1 d0 d1 r) ns x∧ns≤64∧n≤256∧(∀ i,i<n→M.Gd.Sok (M.Gd.mk w ht s v0 v1 d0 d1 r) ((fun i=>M.Sc.mk (sk i) (sc i) (sq i) (sa i) (sb i)) i))∧(∀ i,i<m→M.Pk.Vd ns ((fun i=>M.Pk.mk (pk i) (ps i) (pa i) (pb i) (pc i) (pd i)) i))∧m≤64
 μ i:=n-i
 next i _ _ _:=i+1
 out _:=()
 early _:=false
 SA i:=[(7,.ptr 0 0),(10,.ptr 1 0),(12,.ptr 2 0),(32,.sl 5 n (fun j=>[SI (sk j),SI (sc j),SI (sq j),SI (sa j),SI (sb j)])),(33,SI n),(34,SI i)]
 SH i:=[(0,.cells [.sl 6 m (fun j=>[SI (pk j),SI (ps j),SI (pa j),SI (pb j),SI (pc j),SI (pd j)])]),(1,.cells [SI w,SI ht,SI s,SI v0,SI v1,SI d0,SI d1,SI r,.sl 1 ns (fun k=>[SI (x k)]),SI 0]),(2,.cells [SI (M.Gd.agA (M.Gd.mk w ht s v0 v1 d0 d1 r) x (fun i=>M.Sc.mk (sk i) (sc i) (sq i) (sa i) (sb i)) m (fun i=>M.Pk.mk (pk i) (ps i) (pa i) (pb i) (pc i) (pd i)) i)])]
 n0:=3
 NA _:=[(12,.ptr 0 0)]
 NH _:=[(0,.cells [SI (M.Gd.agA (M.Gd.mk w ht s v0 v1 d0 d1 r) x (fun i=>M.Sc.mk (sk i) (sc i) (sq i) (sa i) (sb i)) m (fun i=>M.Pk.mk (pk i) (ps i) (pa i) (pb i) (pc i) (pd i)) n)])]
 n1:=1
 RA _:=[]
 RH _:=[]
def Rq35 (w ht s v0 v1 d0 d1 r:Int) (ns:Nat) (x:Nat→Int) (n:Nat) (sk sc sq sa sb:Nat→Int) (m:Nat) (pk ps pa pb pc pd:Nat→Int) (i:Nat):Prop:=(fun (z8 z13 z17:Int) (z1 z15 z18:Nat) (z3:Nat→Int) (z0:Nat→Int × Int) (z4:Nat→List SV) (z2 z6 z7 z11:Prop)=>(fun (z16:Int) (z10:List (Int × Int × Int)) (z5 z12 z14:Nat) (z9 z19:Prop)=>(fun (z20 z21:Prop)=>(decide (z8<z13)=true→z17≤z8∧z8<z13∧z14<n∧((!decide (sk z14=(1:Int)))=true→R64 z16∧z21∧n-z12<n-i∧()=()∧z7∧z13=z13∧z20∧z6∧w=w∧ht=ht∧s=s∧v0=v0∧v1=v1∧d0=d0∧d1=d1∧r=r∧z11∧z17=z17∧z3 i=z3 z12∧True)∧((!decide (sk z14=(1:Int)))=false→(z15≤m∧z19)∧(z7∧z13=z13∧z8=z8∧z9∧z6∧(↑m:Int)=(↑m:Int)∧z17=(↑z15:Int)∧z6∧w=w∧ht=ht∧s=s∧v0=v0∧v1=v1∧d0=d0∧d1=d1∧r=r∧z11∧z17=z17∧z3 i=z3 i∧sk z14=sk i∧sc z14=sc i∧sq z14=sq i∧sa z14=sa i∧sb z14=sb i∧z9∧True)∧(false=false→z15+z1≤z1∧(∀ (k:Nat),k<z1→(z0 (z15+k)).1=cI z4 z15 k∧(z0 (z15+k)).2=cI z4 (z15+z18) k)∧z19∧(z7∧z13=z13∧z8=z8∧z18=z18∧z15=z15∧(∀ (q:Nat),q<z18→sa i=sa i∧sb i=sb i)∧z18=z18∧z15=z15∧(∀ (q:Nat),q<z18→z1=z1∧∀ (k:Nat),k<z1→cI z4 z15 k=(z0 k).1∧cI z4 z18 k=(z0 k).2)∧z6∧w=w∧ht=ht∧s=s∧v0=v0∧v1=v1∧d0=d0∧d1=d1∧r=r∧z11∧z17=z17∧z3 i=M.agK m (z3 i) z10 z15∧True)∧((∀ (k:Nat),k<z1→(z0 k).1=(z0 k).1∧(z0 k).2=(z0 k).2)∧z17≤sa i∧sa i≤sb i∧sb i≤(1000000000:Int)∧z1≤(64:Nat)∧z5=z5∧∀ (k:Nat),k<z5→[SV.agg [SV.int IntKind.i64 (M.ysR (M.stY (sa i) (sb i) (M.tuQ (sa i) (sb i) (fun k=>(M.Gd.alR (M.Gd.mk w ht s v0 v1 d0 d1 r) x (M.Sc.mk (sk i) (sc i) (sq i) (sa i) (sb i)) (fun i=>M.Pk.mk (pk i) (ps i) (pa i) (pb i) (pc i) (pd i)) m k).1) (fun k=>(M.Gd.alR (M.Gd.mk w ht s v0 v1 d0 d1 r) x (M.Sc.mk (sk i) (sc i) (sq i) (sa i) (sb i)) (fun i=>M.Pk.mk (pk i) (ps i) (pa i) (pb i) (pc i) (pd i)) m k).2) (M.Gd.aln (M.Gd.mk w ht s v0 v1 d0 d1 r) x (M.Sc.mk (sk i) (sc i) (sq i) (sa i) (sb i)) (fun i=>M.Pk.mk (pk i) (ps i) (pa i) (pb i) (pc i) (pd i)) m)) (M.tlen (sa i) (sb i) (fun k=>(M.Gd.alR (M.Gd.mk w ht s v0 v1 d0 d1 r) x (M.Sc.mk (sk i) (sc i) (sq i) (sa i) (sb i)) (fun i=>M.Pk.mk (pk i) (ps i) (pa i) (pb i) (pc i) (pd i)) m k).1) (fun k=>(M.Gd.alR (M.Gd.mk w ht s v0 v1 d0 d1 r) x (M.Sc.mk (sk i) (sc i) (sq i) (sa i) (sb i)) (fun i=>M.Pk.mk (pk i) (ps i) (pa i) (pb i) (pc i) (pd i)) m k).2) (M.Gd.aln (M.Gd.mk w ht s v0 v1 d0 d1 r) x (M.Sc.mk (sk i) (sc i) (sq i) (sa i) (sb i)) (fun i=>M.Pk.mk (pk i) (ps i) (pa i) (pb i) (pc i) (pd i)) m))) k).1,SV.int IntKind.i64 (M.ysR (M.stY (sa i) (sb i) (M.tuQ (sa i) (sb i) (fun k=>(M.Gd.alR (M.Gd.mk w ht s v0 v1 d0 d1 r) x (M.Sc.mk (sk i) (sc i) (sq i) (sa i) (sb i)) (fun i=>M.Pk.mk (pk i) (ps i) (pa i) (pb i) (pc i) (pd i)) m k).1) (fun k=>(M.Gd.alR (M.Gd.mk w ht s v0 v1 d0 d1 r) x (M.Sc.mk (sk i) (sc i) (sq i) (sa i) (sb i)) (fun i=>M.Pk.mk (pk i) (ps i) (pa i) (pb i) (pc i) (pd i)) m k).2) (M.Gd.aln (M.Gd.mk w ht s v0 v1 d0 d1 r) x (M.Sc.mk (sk i) (sc i) (sq i) (sa i) (sb i)) (fun i=>M.Pk.mk (pk i) (ps i) (pa i) (pb i) (pc i) (pd i)) m)) (M.tlen (sa i) (sb i) (fun k=>(M.Gd.alR (M.Gd.mk w ht s v0 v1 d0 d1 r) x (M.Sc.mk (sk i) (sc i) (sq i) (sa i) (sb i)) (fun i=>M.Pk.mk (pk i) (ps i) (pa i) (pb i) (pc i) (pd i)) m k).1) (fun k=>(M.Gd.alR (M.Gd.mk w ht s v0 v1 d0 d1 r) x (M.Sc.mk (sk i) (sc i) (sq i) (sa i) (sb i)) (fun i=>M.Pk.mk (pk i) (ps i) (pa i) (pb i) (pc i) (pd i)) m k).2) (M.Gd.aln (M.Gd.mk w ht s v0 v1 d0 d1 r) x (M.Sc.mk (sk i) (sc i) (sq i) (sa i) (sb i)) (fun i=>M.Pk.mk (pk i) (ps i) (pa i) (pb i) (pc i) (pd i)) m))) k).2.1],SV.int IntKind.i64 (M.ysR (M.stY (sa i) (sb i) (M.tuQ (sa i) (sb i) (fun k=>(M.Gd.alR (M.Gd.mk w ht s v0 v1 d0 d1 r) x (M.Sc.mk (sk i) (sc i) (sq i) (sa i) (sb i)) (fun i=>M.Pk.mk (pk i) (ps i) (pa i) (pb i) (pc i) (pd i)) m k).1) (fun k=>(M.Gd.alR (M.Gd.mk w ht s v0 v1 d0 d1 r) x (M.Sc.mk (sk i) (sc i) (sq i) (sa i) (sb i)) (fun i=>M.Pk.mk (pk i) (ps i) (pa i) (pb i) (pc i) (pd i)) m k).2) (M.Gd.aln (M.Gd.mk w ht s v0 v1 d0 d1 r) x (M.Sc.mk (sk i) (sc i) (sq i) (sa i) (sb i)) (fun i=>M.Pk.mk (pk i) (ps i) (pa i) (pb i) (pc i) (pd i)) m)) (M.tlen (sa i) (sb i) (fun k=>(M.Gd.alR (M.Gd.mk w ht s v0 v1 d0 d1 r) x (M.Sc.mk (sk i) (sc i) (sq i) (sa i) (sb i)) (fun i=>M.Pk.mk (pk i) (ps i) (pa i) (pb i) (pc i) (pd i)) m k).1) (fun k=>(M.Gd.alR (M.Gd.mk w ht s v0 v1 d0 d1 r) x (M.Sc.mk (sk i) (sc i) (sq i) (sa i) (sb i)) (fun i=>M.Pk.mk (pk i) (ps i) (pa i) (pb i) (pc i) (pd i)) m k).2) (M.Gd.aln (M.Gd.mk w ht s v0 v1 d0 d1 r) x (M.Sc.mk (sk i) (sc i) (sq i) (sa i) (sb i)) (fun i=>M.Pk.mk (pk i) (ps i) (pa i) (pb i) (pc i) (pd i)) m))) k).2.2]=[SV.agg [SV.int IntKind.i64 (M.ysR (M.stY (sa i) (sb i) (M.tuQ (sa i) (sb i) (fun k=>(M.Gd.alR (M.Gd.mk w ht s v0 v1 d0 d1 r) x (M.Sc.mk (sk i) (sc i) (sq i) (sa i) (sb i)) (fun i=>M.Pk.mk (pk i) (ps i) (pa i) (pb i) (pc i) (pd i)) m k).1) (fun k=>(M.Gd.alR (M.Gd.mk w ht s v0 v1 d0 d1 r) x (M.Sc.mk (sk i) (sc i) (sq i) (sa i) (sb i)) (fun i=>M.Pk.mk (pk i) (ps i) (pa i) (pb i) (pc i) (pd i)) m k).2) (M.Gd.aln (M.Gd.mk w ht s v0 v1 d0 d1 r) x (M.Sc.mk (sk i) (sc i) (sq i) (sa i) (sb i)) (fun i=>M.Pk.mk (pk i) (ps i) (pa i) (pb i) (pc i) (pd i)) m)) (M.tlen (sa i) (sb i) (fun k=>(M.Gd.alR (M.Gd.mk w ht s v0 v1 d0 d1 r) x (M.Sc.mk (sk i) (sc i) (sq i) (sa i) (sb i)) (fun i=>M.Pk.mk (pk i) (ps i) (pa i) (pb i) (pc i) (pd i)) m k).1) (fun k=>(M.Gd.alR (M.Gd.mk w ht s v0 v1 d0 d1 r) x (M.Sc.mk (sk i) (sc i) (sq i) (sa i) (sb i)) (fun i=>M.Pk.mk (pk i) (ps i) (pa i) (pb i) (pc i) (pd i)) m k).2) (M.Gd.aln (M.Gd.mk w ht s v0 v1 d0 d1 r) x (M.Sc.mk (sk i) (sc i) (sq i) (sa i) (sb i)) (fun i=>M.Pk.mk (pk i) (ps i) (pa i) (pb i) (pc i) (pd i)) m))) k).1,SV.int IntKind.i64 (M.ysR (M.stY (sa i) (sb i) (M.tuQ (sa i) (sb i) (fun k=>(M.Gd.alR (M.Gd.mk w ht s v0 v1 d0 d1 r) x (M.Sc.mk (sk i) (sc i) (sq i) (sa i) (sb i)) (fun i=>M.Pk.mk (pk i) (ps i) (pa i) (pb i) (pc i) (pd i)) m k).1) (fun k=>(M.Gd.alR (M.Gd.mk w ht s v0 v1 d0 d1 r) x (M.Sc.mk (sk i) (sc i) (sq i) (sa i) (sb i)) (fun i=>M.Pk.mk (pk i) (ps i) (pa i) (pb i) (pc i) (pd i)) m k).2) (M.Gd.aln (M.Gd.mk w ht s v0 v1 d0 d1 r) x (M.Sc.mk (sk i) (sc i) (sq i) (sa i) (sb i)) (fun i=>M.Pk.mk (pk i) (ps i) (pa i) (pb i) (pc i) (pd i)) m)) (M.tlen (sa i) (sb i) (fun k=>(M.Gd.alR (M.Gd.mk w ht s v0 v1 d0 d1 r) x (M.Sc.mk (sk i) (sc i) (sq i) (sa i) (sb i)) (fun i=>M.Pk.mk (pk i) (ps i) (pa i) (pb i) (pc i) (pd i)) m k).1) (fun k=>(M.Gd.alR (M.Gd.mk w ht s v0 v1 d0 d1 r) x (M.Sc.mk (sk i) (sc i) (sq i) (sa i) (sb i)) (fun i=>M.Pk.mk (pk i) (ps i) (pa i) (pb i) (pc i) (pd i)) m k).2) (M.Gd.aln (M.Gd.mk w ht s v0 v1 d0 d1 r) x (M.Sc.mk (sk i) (sc i) (sq i) (sa i) (sb i)) (fun i=>M.Pk.mk (pk i) (ps i) (pa i) (pb i) (pc i) (pd i)) m))) k).2.1],SV.int IntKind.i64 (M.ysR (M.stY (sa i) (sb i) (M.tuQ (sa i) (sb i) (fun k=>(M.Gd.alR (M.Gd.mk w ht s v0 v1 d0 d1 r) x (M.Sc.mk (sk i) (sc i) (sq i) (sa i) (sb i)) (fun i=>M.Pk.mk (pk i) (ps i) (pa i) (pb i) (pc i) (pd i)) m k).1) (fun k=>(M.Gd.alR (M.Gd.mk w ht s v0 v1 d0 d1 r) x (M.Sc.mk (sk i) (sc i) (sq i) (sa i) (sb i)) (fun i=>M.Pk.mk (pk i) (ps i) (pa i) (pb i) (pc i) (pd i)) m k).2) (M.Gd.aln (M.Gd.mk w ht s v0 v1 d0 d1 r) x (M.Sc.mk (sk i) (sc i) (sq i) (sa i) (sb i)) (fun i=>M.Pk.mk (pk i) (ps i) (pa i) (pb i) (pc i) (pd i)) m)) (M.tlen (sa i) (sb i) (fun k=>(M.Gd.alR (M.Gd.mk w ht s v0 v1 d0 d1 r) x (M.Sc.mk (sk i) (sc i) (sq i) (sa i) (sb i)) (fun i=>M.Pk.mk (pk i) (ps i) (pa i) (pb i) (pc i) (pd i)) m k).1) (fun k=>(M.Gd.alR (M.Gd.mk w ht s v0 v1 d0 d1 r) x (M.Sc.mk (sk i) (sc i) (sq i) (sa i) (sb i)) (fun i=>M.Pk.mk (pk i) (ps i) (pa i) (pb i) (pc i) (pd i)) m k).2) (M.Gd.aln (M.Gd.mk w ht s v0 v1 d0 d1 r) x (M.Sc.mk (sk i) (sc i) (sq i) (sa i) (sb i)) (fun i=>M.Pk.mk (pk i) (ps i) (pa i) (pb i) (pc i) (pd i)) m))) k).2.2])∧(z19→R64 z16∧z21∧n-z12<n-i∧()=()∧z7∧z13=z13∧z20∧z6∧w=w∧ht=ht∧s=s∧v0=v0∧v1=v1∧d0=d0∧d1=d1∧r=r∧z11∧z17=z17∧M.agK m (z3 i) z10 z5=z3 z12∧True)∧(∀ (k:Nat),k<z5→z19→False→True→false=true∧True)∧∀ (k:Nat),k<z5→z19→False→True→R64 z16∧z21∧n-z12<n-i∧()=()∧z7∧z13=z13∧z20∧False)∧(false=true→false=true∧True)))∧(decide (z8<z13)=false→false=false∧z3 i=z3 n∧True)) (z16=(↑z12:Int)) (z12≤n∧z2)) (z8+(1:Int)) (M.stY (sa i) (sb i) (M.tuQ (sa i) (sb i) (fun k=>(z0 k).1) (fun k=>(z0 k).2) z1) (M.tlen (sa i) (sb i) (fun k=>(z0 k).1) (fun k=>(z0 k).2) z1)) (M.stK (sa i) (sb i) (M.tuQ (sa i) (sb i) (fun k=>(z0 k).1) (fun k=>(z0 k).2) z1) (M.tlen (sa i) (sb i) (fun k=>(z0 k).1) (fun k=>(z0 k).2) z1)) (i+z18) (Int.toNat z8) (M.Gd.aln (M.Gd.mk w ht s v0 v1 d0 d1 r) x (M.Sc.mk (sk i) (sc i) (sq i) (sa i) (sb i)) (fun i=>M.Pk.mk (pk i) (ps i) (pa i) (pb i) (pc i) (pd i)) z15=z15) (i<n∧z2)) (↑i:Int) (↑n:Int) (0:Int) (M.Gd.aln (M.Gd.mk w ht s v0 v1 d0 d1 r) x (M.Sc.mk (sk i) (sc i) (sq i) (sa i) (sb i)) (fun i=>M.Pk.mk (pk i) (ps i) (pa i) (pb i) (pc i) (pd i)) m) (0:Nat) (1:Nat) (M.Gd.agA (M.Gd.mk w ht s v0 v1 d0 d1 r) x (fun i=>M.Sc.mk (sk i) (sc i) (sq i) (sa i) (sb i)) m (fun i=>M.Pk.mk (pk i) (ps i) (pa i) (pb i) (pc i) (pd i))) (M.Gd.alR (M.Gd.mk w ht s v0 v1 d0 d1 r) x (M.Sc.mk (sk i) (sc i) (sq i) (sa i) (sb i)) (fun i=>M.Pk.mk (pk i) (ps i) (pa i) (pb i) (pc i) (pd i)) m) (fun k=>[SV.int IntKind.i64 (M.Gd.alR (M.Gd.mk w ht s v0 v1 d0 d1 r) x (M.Sc.mk (sk i) (sc i) (sq i) (sa i) (sb i)) (fun i=>M.Pk.mk (pk i) (ps i) (pa i) (pb i) (pc i) (pd i)) m ((0:Nat)+k)).1,SV.int IntKind.i64 (M.Gd.alR (M.Gd.mk w ht s v0 v1 d0 d1 r) x (M.Sc.mk (sk i) (sc i) (sq i) (sa i) (sb i)) (fun i=>M.Pk.mk (pk i) (ps i) (pa i) (pb i) (pc i) (pd i)) m ((0:Nat)+k)).2]) (M.Gd.ok (M.Gd.mk w ht s v0 v1 d0 d1 r)∧M.Gd.all (M.Gd.mk w ht s v0 v1 d0 d1 r) ns x∧ns≤(64:Nat)∧n≤(256:Nat)∧(∀ (i:Nat),i<n→M.Gd.Sok (M.Gd.mk w ht s v0 v1 d0 d1 r) (M.Sc.mk (sk i) (sc i) (sq i) (sa i) (sb i)))∧(∀ (i:Nat),i<m→M.Pk.Vd ns (M.Pk.mk (pk i) (ps i) (pa i) (pb i) (pc i) (pd i)))∧m≤(64:Nat)) (m=m∧∀ (k:Nat),k<m→pk k=pk k∧ps k=ps k∧pa k=pa k∧pb k=pb k∧pc k=pc k∧pd k=pd k) (n=n∧∀ (k:Nat),k<n→sk k=sk k∧sc k=sc k∧sq k=sq k∧sa k=sa k∧sb k=sb k) (ns=ns∧∀ (k:Nat),k<ns→x k=x k)
theorem q35 (w ht s v0 v1 d0 d1 r:Int) (ns:Nat) (x:Nat→Int) (n:Nat) (sk sc sq sa sb:Nat→Int) (m:Nat) (pk ps pa pb pc pd:Nat→Int) (i:Nat):VL true [] [(80,pureE e80)] YS.none Try.f35 0 [0,1,2,3,4,7,8,9,10,11,12,14,15,17,18,19,21,30,32,33,34,35,40,41,42,43,44,54,63,65,75] [(2,loopT false Try.f35.ntmps 0 (lp35b w ht s v0 v1 d0 d1 r ns x n sk sc sq sa sb m pk ps pa pb pc pd i) (fun _ _ _=>(0:Nat))),(4,rangeT false Try.f35.ntmps 0 (rfFn (blkAt 4 Try.f35)) 100 j100 (lp35r w ht s v0 v1 d0 d1 r ns x n sk sc sq sa sb m pk ps pa pb pc pd i) (fun _ _ _=>()))] 0 (lp35 w ht s v0 v1 d0 d1 r ns x n sk sc sq sa sb m pk ps pa pb pc pd) (i)=Rq35 w ht s v0 v1 d0 d1 r ns x n sk sc sq sa sb m pk ps pa pb pc pd i:=by kernel_rfl
theorem peq35 (w ht s v0 v1 d0 d1 r:Int) (ns:Nat) (x:Nat→Int) (n:Nat) (sk sc sq sa sb:Nat→Int) (m:Nat) (pk ps pa pb pc pd:Nat→Int) (i:Nat):(lp35 w ht s v0 v1 d0 d1 r ns x n sk sc sq sa sb m pk ps pa pb pc pd).pre (i)=(i≤n ∧
 M.Gd.ok (M.Gd.mk w ht s v0 v1 d0 d1 r) ∧
  M.Gd.all (M.Gd.mk w ht s v0 v1 d0 d1 r) ns x ∧
   ns≤(64:Nat) ∧
    n≤(256:Nat) ∧
     (∀ (i:Nat),i<n→M.Gd.Sok (M.Gd.mk w ht s v0 v1 d0 d1 r) (M.Sc.mk (sk i) (sc i) (sq i) (sa i) (sb i))) ∧
      (∀ (i:Nat),i<m→M.Pk.Vd ns (M.Pk.mk (pk i) (ps i) (pa i) (pb i) (pc i) (pd i)))∧m≤(64:Nat)):=by kernel_rfl
theorem bq35 (w ht s v0 v1 d0 d1 r:Int) (ns:Nat) (x:Nat→Int) (n:Nat) (sk sc sq sa sb:Nat→Int) (m:Nat) (pk ps pa pb pc pd:Nat→Int) (i:Nat) (hp:i≤n ∧
 M.Gd.ok (M.Gd.mk w ht s v0 v1 d0 d1 r) ∧
  M.Gd.all (M.Gd.mk w ht s v0 v1 d0 d1 r) ns x ∧
   ns≤(64:Nat) ∧
    n≤(256:Nat) ∧
     (∀ (i:Nat),i<n→M.Gd.Sok (M.Gd.mk w ht s v0 v1 d0 d1 r) (M.Sc.mk (sk i) (sc i) (sq i) (sa i) (sb i))) ∧
      (∀ (i:Nat),i<m→M.Pk.Vd ns (M.Pk.mk (pk i) (ps i) (pa i) (pb i) (pc i) (pd i)))∧m≤(64:Nat)):Rq35 w ht s v0 v1 d0 d1 r ns x n sk sc sq sa sb m pk ps pa pb pc pd i:=by
 unfold Rq35
 dsimp -iota -proj -eta -zeta only
 obtain ⟨h1,hk,ha,hn,hn2,hs,hP,hm⟩:=id hp
 have r1:R64 ((i:Int)+1):=by unfold R64; omega
 simp only [Int.toNat_natCast,r1]
 by_cases hl:i<n
 ·have hl':(i:Int)<n:=by omega
  have hz:=hs i hl
  obtain ⟨z1,z2,z3,z4,z5,z6⟩:=id hz
  simp only at z5
  by_cases c1:sk i=1
  ·have e1:M.Gd.agA (M.Gd.mk w ht s v0 v1 d0 d1 r) x (fun i=>M.Sc.mk (sk i) (sc i) (sq i) (sa i) (sb i)) m (fun i=>M.Pk.mk (pk i) (ps i) (pa i) (pb i) (pc i) (pd i)) (i+1)=M.agK m (M.Gd.agA (M.Gd.mk w ht s v0 v1 d0 d1 r) x (fun i=>M.Sc.mk (sk i) (sc i) (sq i) (sa i) (sb i)) m (fun i=>M.Pk.mk (pk i) (ps i) (pa i) (pb i) (pc i) (pd i)) i) (M.stY (sa i) (sb i) (M.tuQ (sa i) (sb i) (fun k=>(M.Gd.alR (M.Gd.mk w ht s v0 v1 d0 d1 r) x (M.Sc.mk (sk i) (sc i) (sq i) (sa i) (sb i)) (fun i=>M.Pk.mk (pk i) (ps i) (pa i) (pb i) (pc i) (pd i)) m k).1) (fun k=>(M.Gd.alR (M.Gd.mk w ht s v0 v1 d0 d1 r) x (M.Sc.mk (sk i) (sc i) (sq i) (sa i) (sb i)) (fun i=>M.Pk.mk (pk i) (ps i) (pa i) (pb i) (pc i) (pd i)) m k).2) (M.Gd.aln (M.Gd.mk w ht s v0 v1 d0 d1 r) x (M.Sc.mk (sk i) (sc i) (sq i) (sa i) (sb i)) (fun i=>M.Pk.mk (pk i) (ps i) (pa i) (pb i) (pc i) (pd i)) m)) (M.tlen (sa i) (sb i) (fun k=>(M.Gd.alR (M.Gd.mk w ht s v0 v1 d0 d1 r) x (M.Sc.mk (sk i) (sc i) (sq i) (sa i) (sb i)) (fun i=>M.Pk.mk (pk i) (ps i) (pa i) (pb i) (pc i) (pd i)) m k).1) (fun k=>(M.Gd.alR (M.Gd.mk w ht s v0 v1 d0 d1 r) x (M.Sc.mk (sk i) (sc i) (sq i) (sa i) (sb i)) (fun i=>M.Pk.mk (pk i) (ps i) (pa i) (pb i) (pc i) (pd i)) m k).2) (M.Gd.aln (M.Gd.mk w ht s v0 v1 d0 d1 r) x (M.Sc.mk (sk i) (sc i) (sq i) (sa i) (sb i)) (fun i=>M.Pk.mk (pk i) (ps i) (pa i) (pb i) (pc i) (pd i)) m))) (M.stK (sa i) (sb i) (M.tuQ (sa i) (sb i) (fun k=>(M.Gd.alR (M.Gd.mk w ht s v0 v1 d0 d1 r) x (M.Sc.mk (sk i) (sc i) (sq i) (sa i) (sb i)) (fun i=>M.Pk.mk (pk i) (ps i) (pa i) (pb i) (pc i) (pd i)) m k).1) (fun k=>(M.Gd.alR (M.Gd.mk w ht s v0 v1 d0 d1 r) x (M.Sc.mk (sk i) (sc i) (sq i) (sa i) (sb i)) (fun i=>M.Pk.mk (pk i) (ps i) (pa i) (pb i) (pc i) (pd i)) m k).2) (M.Gd.aln (M.Gd.mk w ht s v0 v1 d0 d1 r) x (M.Sc.mk (sk i) (sc i) (sq i) (sa i) (sb i)) (fun i=>M.Pk.mk (pk i) (ps i) (pa i) (pb i) (pc i) (pd i)) m)) (M.tlen (sa i) (sb i) (fun k=>(M.Gd.alR (M.Gd.mk w ht s v0 v1 d0 d1 r) x (M.Sc.mk (sk i) (sc i) (sq i) (sa i) (sb i)) (fun i=>M.Pk.mk (pk i) (ps i) (pa i) (pb i) (pc i) (pd i)) m k).1) (fun k=>(M.Gd.alR (M.Gd.mk w ht s v0 v1 d0 d1 r) x (M.Sc.mk (sk i) (sc i) (sq i) (sa i) (sb i)) (fun i=>M.Pk.mk (pk i) (ps i) (pa i) (pb i) (pc i) (pd i)) m k).2) (M.Gd.aln (M.Gd.mk w ht s v0 v1 d0 d1 r) x (M.Sc.mk (sk i) (sc i) (sq i) (sa i) (sb i)) (fun i=>M.Pk.mk (pk i) (ps i) (pa i) (pb i) (pc i) (pd i)) m))):=M.Gd.agA_step (g:=(M.Gd.mk w ht s v0 v1 d0 d1 r)) (x:=x) (S:=(fun i=>M.Sc.mk (sk i) (sc i) (sq i) (sa i) (sb i))) (m:=m) (P:=(fun i=>M.Pk.mk (pk i) (ps i) (pa i) (pb i) (pc i) (pd i))) (i:=i) c1
   have e2:M.Gd.aln (M.Gd.mk w ht s v0 v1 d0 d1 r) x (M.Sc.mk (sk i) (sc i) (sq i) (sa i) (sb i)) (fun i=>M.Pk.mk (pk i) (ps i) (pa i) (pb i) (pc i) (pd i)) 0=0:=rfl
   have e3:M.agK m (M.Gd.agA (M.Gd.mk w ht s v0 v1 d0 d1 r) x (fun i=>M.Sc.mk (sk i) (sc i) (sq i) (sa i) (sb i)) m (fun i=>M.Pk.mk (pk i) (ps i) (pa i) (pb i) (pc i) (pd i)) i) (M.stY (sa i) (sb i) (M.tuQ (sa i) (sb i) (fun k=>(M.Gd.alR (M.Gd.mk w ht s v0 v1 d0 d1 r) x (M.Sc.mk (sk i) (sc i) (sq i) (sa i) (sb i)) (fun i=>M.Pk.mk (pk i) (ps i) (pa i) (pb i) (pc i) (pd i)) m k).1) (fun k=>(M.Gd.alR (M.Gd.mk w ht s v0 v1 d0 d1 r) x (M.Sc.mk (sk i) (sc i) (sq i) (sa i) (sb i)) (fun i=>M.Pk.mk (pk i) (ps i) (pa i) (pb i) (pc i) (pd i)) m k).2) (M.Gd.aln (M.Gd.mk w ht s v0 v1 d0 d1 r) x (M.Sc.mk (sk i) (sc i) (sq i) (sa i) (sb i)) (fun i=>M.Pk.mk (pk i) (ps i) (pa i) (pb i) (pc i) (pd i)) m)) (M.tlen (sa i) (sb i) (fun k=>(M.Gd.alR (M.Gd.mk w ht s v0 v1 d0 d1 r) x (M.Sc.mk (sk i) (sc i) (sq i) (sa i) (sb i)) (fun i=>M.Pk.mk (pk i) (ps i) (pa i) (pb i) (pc i) (pd i)) m k).1) (fun k=>(M.Gd.alR (M.Gd.mk w ht s v0 v1 d0 d1 r) x (M.Sc.mk (sk i) (sc i) (sq i) (sa i) (sb i)) (fun i=>M.Pk.mk (pk i) (ps i) (pa i) (pb i) (pc i) (pd i)) m k).2) (M.Gd.aln (M.Gd.mk w ht s v0 v1 d0 d1 r) x (M.Sc.mk (sk i) (sc i) (sq i) (sa i) (sb i)) (fun i=>M.Pk.mk (pk i) (ps i) (pa i) (pb i) (pc i) (pd i)) m))) 0=(M.Gd.agA (M.Gd.mk w ht s v0 v1 d0 d1 r) x (fun i=>M.Sc.mk (sk i) (sc i) (sq i) (sa i) (sb i)) m (fun i=>M.Pk.mk (pk i) (ps i) (pa i) (pb i) (pc i) (pd i)) i):=rfl
   have hle:(M.Gd.aln (M.Gd.mk w ht s v0 v1 d0 d1 r) x (M.Sc.mk (sk i) (sc i) (sq i) (sa i) (sb i)) (fun i=>M.Pk.mk (pk i) (ps i) (pa i) (pb i) (pc i) (pd i)) m)≤m:=M.Gd.alS_len (g:=(M.Gd.mk w ht s v0 v1 d0 d1 r)) (x:=x) (s:=(M.Sc.mk (sk i) (sc i) (sq i) (sa i) (sb i))) (P:=(fun i=>M.Pk.mk (pk i) (ps i) (pa i) (pb i) (pc i) (pd i))) m
   simp only [e1,e2,e3]
   clear e1 e2 e3
   simp [hl,hl',c1,hk,ha,hn,hn2,hm,cI,asI]
   repeat' apply And.intro
   all_goals first | omega | exact hP | exact hs | (simp only [c1] at hle; omega) | exact fun _ _=>⟨⟨by omega,hs,hP⟩,by omega⟩
  ·have e1:=M.Gd.agA_stay (g:=(M.Gd.mk w ht s v0 v1 d0 d1 r)) (x:=x) (S:=(fun i=>M.Sc.mk (sk i) (sc i) (sq i) (sa i) (sb i))) (m:=m) (P:=(fun i=>M.Pk.mk (pk i) (ps i) (pa i) (pb i) (pc i) (pd i))) (i:=i) c1
   simp only [e1]
   simp [hl,hl',c1,hk,ha,hn,hn2,hm]
   repeat' apply And.intro
   all_goals first | omega | exact hP | exact hs
 ·have e:i=n:=by omega
  subst e
  simp
theorem t35 (w ht s v0 v1 d0 d1 r:Int) (ns:Nat) (x:Nat→Int) (n:Nat) (sk sc sq sa sb:Nat→Int) (m:Nat) (pk ps pa pb pc pd:Nat→Int) {F:Fence} (hF:FOK F) (hr:F.round=none) (Y:YEnv PP YS.none):∀ Q A H nx,loopT false Try.f35.ntmps 0 (lp35 w ht s v0 v1 d0 d1 r ns x n sk sc sq sa sb m pk ps pa pb pc pd) (fun _ _ _=>(0:Nat)) Q A H nx→WPS Y F Try.f35.ntmps 0 (.block 0 (blkAt 0 Try.f35)) Q A H nx :=
 loopW (E:=[]) (.nil) (O:=[(80,pureE e80)]) (.cons (pureE_ok s80) (.nil)) (ck:=true) (L:=[0,1,2,3,4,7,8,9,10,11,12,14,15,17,18,19,21,30,32,33,34,35,40,41,42,43,44,54,63,65,75]) (f:=Try.f35) (m:=0) (id:=0) (l:=(lp35 w ht s v0 v1 d0 d1 r ns x n sk sc sq sa sb m pk ps pa pb pc pd)) (LI:=fun (i:Nat)=>[(2,loopT false Try.f35.ntmps 0 (lp35b w ht s v0 v1 d0 d1 r ns x n sk sc sq sa sb m pk ps pa pb pc pd i) (fun _ _ _=>(0:Nat))),(4,rangeT false Try.f35.ntmps 0 (rfFn (blkAt 4 Try.f35)) 100 j100 (lp35r w ht s v0 v1 d0 d1 r ns x n sk sc sq sa sb m pk ps pa pb pc pd i) (fun _ _ _=>()))]) Y hF (by kernel_rfl) (fun (i:Nat)=>.cons (by kernel_rfl) (t35b w ht s v0 v1 d0 d1 r ns x n sk sc sq sa sb m pk ps pa pb pc pd i hF Y) (.cons (by kernel_rfl) (t35r w ht s v0 v1 d0 d1 r ns x n sk sc sq sa sb m pk ps pa pb pc pd i hF hr Y) (.nil))) (by
  rintro i hp
  exact Hold.of (q35 w ht s v0 v1 d0 d1 r ns x n sk sc sq sa sb m pk ps pa pb pc pd i) (bq35 w ht s v0 v1 d0 d1 r ns x n sk sc sq sa sb m pk ps pa pb pc pd i ((peq35 w ht s v0 v1 d0 d1 r ns x n sk sc sq sa sb m pk ps pa pb pc pd i).mp hp)))
def e35:List SV→Option (List Prop × SV)
 | [.agg [.int .i64 w,.int .i64 ht,.int .i64 s,.int .i64 v0,.int .i64 v1,.int .i64 d0,.int .i64 d1,.int .i64 r],.sl 1 ns g_1,.sl 5 n g_2,.sl 6 m g_3]=>some ([Row 1 ns g_1,Row 5 n g_2,Row 6 m g_3,ns≤100000,n≤9223372036854775807,m≤100000],.tup [SI (if (M.Gd.ckE (M.Gd.mk w ht s v0 v1 d0 d1 r) ns (cI g_1 0) n (fun i=>M.Sc.mk ((cI g_2 0) i) ((cI g_2 1) i) ((cI g_2 2) i) ((cI g_2 3) i) ((cI g_2 4) i)) m (fun i=>M.Pk.mk ((cI g_3 0) i) ((cI g_3 1) i) ((cI g_3 2) i) ((cI g_3 3) i) ((cI g_3 4) i) ((cI g_3 5) i)) 0)=0 then M.Gd.agA (M.Gd.mk w ht s v0 v1 d0 d1 r) (cI g_1 0) (fun i=>M.Sc.mk ((cI g_2 0) i) ((cI g_2 1) i) ((cI g_2 2) i) ((cI g_2 3) i) ((cI g_2 4) i)) m (fun i=>M.Pk.mk ((cI g_3 0) i) ((cI g_3 1) i) ((cI g_3 2) i) ((cI g_3 3) i) ((cI g_3 4) i) ((cI g_3 5) i)) n else 0),SI (M.Gd.ckE (M.Gd.mk w ht s v0 v1 d0 d1 r) ns (cI g_1 0) n (fun i=>M.Sc.mk ((cI g_2 0) i) ((cI g_2 1) i) ((cI g_2 2) i) ((cI g_2 3) i) ((cI g_2 4) i)) m (fun i=>M.Pk.mk ((cI g_3 0) i) ((cI g_3 1) i) ((cI g_3 2) i) ((cI g_3 3) i) ((cI g_3 4) i) ((cI g_3 5) i)) 0)])
 | _=>none
def Rr35 (w ht s v0 v1 d0 d1 r:Int) (ns:Nat) (x:Nat→Int) (n:Nat) (sk sc sq sa sb:Nat→Int) (m:Nat) (pk ps pa pb pc pd:Nat→Int):Prop:=(fun (z4:Int) (z5:M.Gd) (z2 z3 z6:Prop)=>(fun (z0:Int) (z1:Nat→Int)=>z6∧z3∧z2∧ns≤(100000:Nat)∧n≤(9223372036854775807:Nat)∧m≤(100000:Nat)∧((!decide (z0=z4))=true→(z4=if z0=z4 then z1 n else z4)∧z0=z0)∧((!decide (z0=z4))=false→((0:Nat)≤n∧M.Gd.ok z5∧M.Gd.all z5 ns x∧ns≤(64:Nat)∧n≤(256:Nat)∧(∀ (i:Nat),i<n→M.Gd.Sok z5 (M.Sc.mk (sk i) (sc i) (sq i) (sa i) (sb i)))∧(∀ (i:Nat),i<m→M.Pk.Vd ns (M.Pk.mk (pk i) (ps i) (pa i) (pb i) (pc i) (pd i)))∧m≤(64:Nat))∧((n=n∧z3)∧(↑n:Int)=(↑n:Int)∧z4=(↑(0:Nat):Int)∧(m=m∧z2)∧w=w∧ht=ht∧s=s∧v0=v0∧v1=v1∧d0=d0∧d1=d1∧r=r∧(ns=ns∧z6)∧z4=z4∧(- 1:Int)=z1 (0:Nat)∧True)∧(false=false→(z1 n=if z0=z4 then z1 n else z4)∧z4=z0)∧(false=true→False))) (M.Gd.ckE z5 ns x n (fun i=>M.Sc.mk (sk i) (sc i) (sq i) (sa i) (sb i)) m (fun i=>M.Pk.mk (pk i) (ps i) (pa i) (pb i) (pc i) (pd i)) z4) (M.Gd.agA z5 x (fun i=>M.Sc.mk (sk i) (sc i) (sq i) (sa i) (sb i)) m (fun i=>M.Pk.mk (pk i) (ps i) (pa i) (pb i) (pc i) (pd i)))) (0:Int) (M.Gd.mk w ht s v0 v1 d0 d1 r) (∀ (k:Nat),k<m→pk k=pk k∧ps k=ps k∧pa k=pa k∧pb k=pb k∧pc k=pc k∧pd k=pd k) (∀ (k:Nat),k<n→sk k=sk k∧sc k=sc k∧sq k=sq k∧sa k=sa k∧sb k=sb k) (∀ (k:Nat),k<ns→x k=x k)
theorem r35 (w ht s v0 v1 d0 d1 r:Int) (ns:Nat) (x:Nat→Int) (n:Nat) (sk sc sq sa sb:Nat→Int) (m:Nat) (pk ps pa pb pc pd:Nat→Int):V true [] [(59,pureE e59w)] Try.f35 [0,1,2,3,4,7,8,9,10,11,12,14,15,17,18,19,21,30,32,33,34,35,40,41,42,43,44,54,63,65,75] [(0,loopT false Try.f35.ntmps 0 (lp35 w ht s v0 v1 d0 d1 r ns x n sk sc sq sa sb m pk ps pa pb pc pd) (fun _ _ _=>(0:Nat)))] [.agg [SI w,SI ht,SI s,SI v0,SI v1,SI d0,SI d1,SI r],.sl 1 ns (fun k=>[SI (x k)]),.sl 5 n (fun k=>[SI (sk k),SI (sc k),SI (sq k),SI (sa k),SI (sb k)]),.sl 6 m (fun k=>[SI (pk k),SI (ps k),SI (pa k),SI (pb k),SI (pc k),SI (pd k)])] (.tup [SI (if (M.Gd.ckE (M.Gd.mk w ht s v0 v1 d0 d1 r) ns x n (fun i=>M.Sc.mk (sk i) (sc i) (sq i) (sa i) (sb i)) m (fun i=>M.Pk.mk (pk i) (ps i) (pa i) (pb i) (pc i) (pd i)) 0)=0 then M.Gd.agA (M.Gd.mk w ht s v0 v1 d0 d1 r) x (fun i=>M.Sc.mk (sk i) (sc i) (sq i) (sa i) (sb i)) m (fun i=>M.Pk.mk (pk i) (ps i) (pa i) (pb i) (pc i) (pd i)) n else 0),SI (M.Gd.ckE (M.Gd.mk w ht s v0 v1 d0 d1 r) ns x n (fun i=>M.Sc.mk (sk i) (sc i) (sq i) (sa i) (sb i)) m (fun i=>M.Pk.mk (pk i) (ps i) (pa i) (pb i) (pc i) (pd i)) 0)])=Rr35 w ht s v0 v1 d0 d1 r ns x n sk sc sq sa sb m pk ps pa pb pc pd:=by kernel_rfl
theorem br35 (w ht s v0 v1 d0 d1 r:Int) (ns:Nat) (x:Nat→Int) (n:Nat) (sk sc sq sa sb:Nat→Int) (m:Nat) (pk ps pa pb pc pd:Nat→Int) (hp:(ns≤100000)∧(n≤9223372036854775807)∧(m≤100000)∧AllP []):Rr35 w ht s v0 v1 d0 d1 r ns x n sk sc sq sa sb m pk ps pa pb pc pd:=by
 unfold Rr35
 dsimp -iota -proj -eta -zeta only
 obtain ⟨h1,h2,h3,-⟩:=id hp
 have e0:M.Gd.agA (M.Gd.mk w ht s v0 v1 d0 d1 r) x (fun i=>M.Sc.mk (sk i) (sc i) (sq i) (sa i) (sb i)) m (fun i=>M.Pk.mk (pk i) (ps i) (pa i) (pb i) (pc i) (pd i)) 0 = -1:=rfl
 simp only [e0]
 by_cases c:(M.Gd.ckE (M.Gd.mk w ht s v0 v1 d0 d1 r) ns x n (fun i=>M.Sc.mk (sk i) (sc i) (sq i) (sa i) (sb i)) m (fun i=>M.Pk.mk (pk i) (ps i) (pa i) (pb i) (pc i) (pd i)) 0)=0
 ·obtain ⟨hk,hn,ha,⟨hn2,hs⟩,hm,hP,f1,f2⟩:=M.Gd.ckE_ok.1 c
  simp [c,h1,h2,h3,hk,hn,ha,hn2,hm]
  try exact ⟨hs,hP⟩
 ·simp [c,h1,h2,h3]
theorem s35:PureOK PP 35 e35:=by
 intro xs ps res h hp
 unfold e35 at h
 split at h
 ·rename_i w ht s v0 v1 d0 d1 r ns g_1 n g_2 m g_3
  cases h
  simp only [AllP.cons] at hp
  obtain ⟨Hg_1,Hg_2,Hg_3,hp⟩:=hp
  exact Spec.args (enterH (Hold.of (r35 w ht s v0 v1 d0 d1 r ns (cI g_1 0) n (cI g_2 0) (cI g_2 1) (cI g_2 2) (cI g_2 3) (cI g_2 4) m (cI g_3 0) (cI g_3 1) (cI g_3 2) (cI g_3 3) (cI g_3 4) (cI g_3 5)) (br35 w ht s v0 v1 d0 d1 r ns (cI g_1 0) n (cI g_2 0) (cI g_2 1) (cI g_2 2) (cI g_2 3) (cI g_2 4) m (cI g_3 0) (cI g_3 1) (cI g_3 2) (cI g_3 3) (cI g_3 4) (cI g_3 5) hp)) (.nil) (.cons (pureE_ok s59w) (.nil)) (k:=35) (by kernel_rfl) (by kernel_rfl) (fun Y=>.cons (by kernel_rfl) (t35 w ht s v0 v1 d0 d1 r ns (cI g_1 0) n (cI g_2 0) (cI g_2 1) (cI g_2 2) (cI g_2 3) (cI g_2 4) m (cI g_3 0) (cI g_3 1) (cI g_3 2) (cI g_3 3) (cI g_3 4) (cI g_3 5) FOK.wide rfl Y) (.nil))) (.cons (.refl _) (.cons (.row Hg_1 fun _=>rfl) (.cons (.row Hg_2 fun _=>rfl) (.cons (.row Hg_3 fun _=>rfl) .nil))))
 ·cases h
end Go.Proofs.Ytoncoofmijjgeaa.Sep
namespace Go.Proofs.Ytoncoofmijjgeaa.Sep
open Go
set_option linter.unusedVariables false
set_option linter.unusedSimpArgs false
def lp36b (w ht s v0 v1 d0 d1 r:Int) (ns:Nat) (x:Nat→Int) (n:Nat) (sk sc sq sa sb:Nat→Int) (m:Nat) (pk ps pa pb pc pd:Nat→Int) (fi:Nat):LoopS where
 ι:=Nat
 β:=Int
 pre i:=i≤n∧fi≤m∧M.Gd.ok (M.Gd.mk w ht s v0 v1 d0 d1 r)∧M.Gd.all (M.Gd.mk w ht s v0 v1 d0 d1 r) ns x∧ns≤64∧n≤256∧(∀ i,i<n→M.Gd.Sok (M.Gd.mk w ht s v0 v1 d0 d1 r) ((fun i=>M.Sc.mk (sk i) (sc i) (sq i) (sa i) (sb i)) i))∧(∀ i,i<m→M.Pk.Vd ns ((fun i=>M.Pk.mk (pk i) (ps i) (pa i) (pb i) (pc i) (pd i)) i))∧m≤64
 μ i:=n-i
 next i _ _ _:=i+1
 out i:=M.ixF (M.Gd.agQ (M.Gd.mk w ht s v0 v1 d0 d1 r) x (fun i=>M.Sc.mk (sk i) (sc i) (sq i) (sa i) (sb i)) m (fun i=>M.Pk.mk (pk i) (ps i) (pa i) (pb i) (pc i) (pd i)) (fi:Int)) (n-i) i
 early q:=decide (0≤q)
 SA i:=[(1,.sl 1 ns (fun k=>[SI (x k)])),(2,.sl 5 n (fun j=>[SI (sk j),SI (sc j),SI (sq j),SI (sa j),SI (sb j)])),(3,.sl 6 m (fun j=>[SI (pk j),SI (ps j),SI (pa j),SI (pb j),SI (pc j),SI (pd j)])),(4,.ptr 0 0),(11,SI fi),(12,SI i)]
 SH _:=[(0,.cells [SI w,SI ht,SI s,SI v0,SI v1,SI d0,SI d1,SI r])]
 n0:=1
 NA _:=[(1,.sl 1 ns (fun k=>[SI (x k)])),(2,.sl 5 n (fun j=>[SI (sk j),SI (sc j),SI (sq j),SI (sa j),SI (sb j)])),(3,.sl 6 m (fun j=>[SI (pk j),SI (ps j),SI (pa j),SI (pb j),SI (pc j),SI (pd j)])),(4,.ptr 0 0),(11,SI fi)]
 NH _:=[(0,.cells [SI w,SI ht,SI s,SI v0,SI v1,SI d0,SI d1,SI r])]
 n1:=1
 RA _:=[(8,SI fi),(9,SI 0)]
 RH _:=[]
def Rq36b (w ht s v0 v1 d0 d1 r:Int) (ns:Nat) (x:Nat→Int) (n:Nat) (sk sc sq sa sb:Nat→Int) (m:Nat) (pk ps pa pb pc pd:Nat→Int) (fi:Nat) (i:Nat):Prop:=(fun (z6 z8 z9:Int) (z5:M.Gd) (z4 z7:Prop)=>(fun (z2:Bool) (z1:Nat) (z0:Prop)=>(fun (z3:Bool × Int × Int)=>(decide (z6<z9)=true→(0:Int)≤z6∧z6<z9∧z1<n∧((!decide (sk z1=(1:Int)))=true→z0)∧((!decide (sk z1=(1:Int)))=false→(0:Int)≤z6∧z6<z9∧z1<n∧z7∧z4∧M.Gd.ok z5∧M.Gd.all z5 ns x∧ns≤(64:Nat)∧M.Gd.Sok z5 (M.Sc.mk (sk z1) (sc z1) (sq z1) (sa z1) (sb z1))∧(∀ (i:Nat),i<m→M.Pk.Vd ns (M.Pk.mk (pk i) (ps i) (pa i) (pb i) (pc i) (pd i)))∧m≤(64:Nat)∧(z3.1=true→z2=true∧z8=z8∧(0:Int)=(0:Int)∧True)∧(z3.1=false→z0)))∧(decide (z6<z9)=false→z2=false∧(ns=ns∧z7)∧(n=n∧∀ (k:Nat),k<n→sk k=sk k∧sc k=sc k∧sq k=sq k∧sa k=sa k∧sb k=sb k)∧(m=m∧z4)∧z8=z8∧w=w∧ht=ht∧s=s∧v0=v0∧v1=v1∧d0=d0∧d1=d1∧r=r∧True)) (M.Gd.lft z5 x (M.Sc.mk (sk z1) (sc z1) (sq z1) (sa z1) (sb z1)) m (fun i=>M.Pk.mk (pk i) (ps i) (pa i) (pb i) (pc i) (pd i)) z8)) (decide ((0:Int)≤M.ixF (M.Gd.agQ z5 x (fun i=>M.Sc.mk (sk i) (sc i) (sq i) (sa i) (sb i)) m (fun i=>M.Pk.mk (pk i) (ps i) (pa i) (pb i) (pc i) (pd i)) z8) (n-i) i)) (Int.toNat z6) (R64 (z6+(1:Int))∧(i+(1:Nat)≤n∧fi≤m∧M.Gd.ok z5∧M.Gd.all z5 ns x∧ns≤(64:Nat)∧n≤(256:Nat)∧(∀ (i:Nat),i<n→M.Gd.Sok z5 (M.Sc.mk (sk i) (sc i) (sq i) (sa i) (sb i)))∧(∀ (i:Nat),i<m→M.Pk.Vd ns (M.Pk.mk (pk i) (ps i) (pa i) (pb i) (pc i) (pd i)))∧m≤(64:Nat))∧n-(i+(1:Nat))<n-i∧M.ixF (M.Gd.agQ z5 x (fun i=>M.Sc.mk (sk i) (sc i) (sq i) (sa i) (sb i)) m (fun i=>M.Pk.mk (pk i) (ps i) (pa i) (pb i) (pc i) (pd i)) z8) (n-(i+(1:Nat))) (i+(1:Nat))=M.ixF (M.Gd.agQ z5 x (fun i=>M.Sc.mk (sk i) (sc i) (sq i) (sa i) (sb i)) m (fun i=>M.Pk.mk (pk i) (ps i) (pa i) (pb i) (pc i) (pd i)) z8) (n-i) i∧(ns=ns∧z7)∧(n=n∧∀ (k:Nat),k<n→sk k=sk k∧sc k=sc k∧sq k=sq k∧sa k=sa k∧sb k=sb k)∧(m=m∧z4)∧z8=z8∧z6+(1:Int)=(↑(i+(1:Nat)):Int)∧w=w∧ht=ht∧s=s∧v0=v0∧v1=v1∧d0=d0∧d1=d1∧r=r∧True)) (↑i:Int) (↑fi:Int) (↑n:Int) (M.Gd.mk w ht s v0 v1 d0 d1 r) (∀ (k:Nat),k<m→pk k=pk k∧ps k=ps k∧pa k=pa k∧pb k=pb k∧pc k=pc k∧pd k=pd k) (∀ (k:Nat),k<ns→x k=x k)
theorem q36b (w ht s v0 v1 d0 d1 r:Int) (ns:Nat) (x:Nat→Int) (n:Nat) (sk sc sq sa sb:Nat→Int) (m:Nat) (pk ps pa pb pc pd:Nat→Int) (fi:Nat) (i:Nat):VL true [] [(77,pureE e77)] YS.none Try.f36 0 [0,1,2,3,4,8,9,10,11,12,14,21,26,32,40,53] [] 2 (lp36b w ht s v0 v1 d0 d1 r ns x n sk sc sq sa sb m pk ps pa pb pc pd fi) (i)=Rq36b w ht s v0 v1 d0 d1 r ns x n sk sc sq sa sb m pk ps pa pb pc pd fi i:=by kernel_rfl
theorem peq36b (w ht s v0 v1 d0 d1 r:Int) (ns:Nat) (x:Nat→Int) (n:Nat) (sk sc sq sa sb:Nat→Int) (m:Nat) (pk ps pa pb pc pd:Nat→Int) (fi:Nat) (i:Nat):(lp36b w ht s v0 v1 d0 d1 r ns x n sk sc sq sa sb m pk ps pa pb pc pd fi).pre (i)=(i≤n ∧
 fi≤m ∧
  M.Gd.ok (M.Gd.mk w ht s v0 v1 d0 d1 r) ∧
   M.Gd.all (M.Gd.mk w ht s v0 v1 d0 d1 r) ns x ∧
    ns≤(64:Nat) ∧
     n≤(256:Nat) ∧
      (∀ (i:Nat),i<n→M.Gd.Sok (M.Gd.mk w ht s v0 v1 d0 d1 r) (M.Sc.mk (sk i) (sc i) (sq i) (sa i) (sb i))) ∧
       (∀ (i:Nat),i<m→M.Pk.Vd ns (M.Pk.mk (pk i) (ps i) (pa i) (pb i) (pc i) (pd i)))∧m≤(64:Nat)):=by kernel_rfl
theorem bq36b (w ht s v0 v1 d0 d1 r:Int) (ns:Nat) (x:Nat→Int) (n:Nat) (sk sc sq sa sb:Nat→Int) (m:Nat) (pk ps pa pb pc pd:Nat→Int) (fi:Nat) (i:Nat) (hp:i≤n ∧
 fi≤m ∧
  M.Gd.ok (M.Gd.mk w ht s v0 v1 d0 d1 r) ∧
   M.Gd.all (M.Gd.mk w ht s v0 v1 d0 d1 r) ns x ∧
    ns≤(64:Nat) ∧
     n≤(256:Nat) ∧
      (∀ (i:Nat),i<n→M.Gd.Sok (M.Gd.mk w ht s v0 v1 d0 d1 r) (M.Sc.mk (sk i) (sc i) (sq i) (sa i) (sb i))) ∧
       (∀ (i:Nat),i<m→M.Pk.Vd ns (M.Pk.mk (pk i) (ps i) (pa i) (pb i) (pc i) (pd i)))∧m≤(64:Nat)):Rq36b w ht s v0 v1 d0 d1 r ns x n sk sc sq sa sb m pk ps pa pb pc pd fi i:=by
 unfold Rq36b
 dsimp -iota -proj -eta -zeta only
 obtain ⟨h1,hf,hk,ha,hn,hn2,hs,hP,hm⟩:=id hp
 have r1:R64 ((i:Int)+1):=by unfold R64; omega
 simp only [Int.toNat_natCast,r1]
 by_cases hl:i<n
 ·have hl':(i:Int)<n:=by omega
  obtain ⟨q,hq⟩ : ∃ q,n-i=q+1:=⟨n-i-1,by omega⟩
  have hq':n-(i+1)=q:=by omega
  have hz:=hs i hl
  have e:M.ixF (M.Gd.agQ (M.Gd.mk w ht s v0 v1 d0 d1 r) x (fun i=>M.Sc.mk (sk i) (sc i) (sq i) (sa i) (sb i)) m (fun i=>M.Pk.mk (pk i) (ps i) (pa i) (pb i) (pc i) (pd i)) (fi:Int)) (q+1) i=if (decide (sk i=1) && (M.Gd.lft (M.Gd.mk w ht s v0 v1 d0 d1 r) x (M.Sc.mk (sk i) (sc i) (sq i) (sa i) (sb i)) m (fun i=>M.Pk.mk (pk i) (ps i) (pa i) (pb i) (pc i) (pd i)) (fi:Int)).1)=true then (i:Int) else M.ixF (M.Gd.agQ (M.Gd.mk w ht s v0 v1 d0 d1 r) x (fun i=>M.Sc.mk (sk i) (sc i) (sq i) (sa i) (sb i)) m (fun i=>M.Pk.mk (pk i) (ps i) (pa i) (pb i) (pc i) (pd i)) (fi:Int)) q (i+1):=rfl
  simp only [hq,hq',e]
  clear e
  obtain ⟨u,hu⟩ : ∃ u,u=M.Gd.lft (M.Gd.mk w ht s v0 v1 d0 d1 r) x (M.Sc.mk (sk i) (sc i) (sq i) (sa i) (sb i)) m (fun i=>M.Pk.mk (pk i) (ps i) (pa i) (pb i) (pc i) (pd i)) (fi:Int):=⟨_,rfl⟩
  simp only [← hu]
  clear hu
  by_cases c1:sk i=1
  ·by_cases c2:u.1=true
   ·simp only [c1] at hz
    simp [hl,hl',c1,c2,hf,hk,ha,hn,hn2,hz,hm]
    repeat' apply And.intro
    all_goals first | omega | exact hP | exact hs
   ·simp only [c1] at hz
    simp [hl,hl',c1,c2,hf,hk,ha,hn,hn2,hz,hm]
    repeat' apply And.intro
    all_goals first | omega | exact hP | exact hs
  ·simp [hl,hl',c1,hf,hk,ha,hn,hn2,hm]
   repeat' apply And.intro
   all_goals first | omega | exact hP | exact hs
 ·have e:n-i=0:=by omega
  simp [hl,e,M.ixF]
theorem t36b (w ht s v0 v1 d0 d1 r:Int) (ns:Nat) (x:Nat→Int) (n:Nat) (sk sc sq sa sb:Nat→Int) (m:Nat) (pk ps pa pb pc pd:Nat→Int) (fi:Nat) {F:Fence} (hF:FOK F) (Y:YEnv PP YS.none):∀ Q A H nx,loopT false Try.f36.ntmps 0 (lp36b w ht s v0 v1 d0 d1 r ns x n sk sc sq sa sb m pk ps pa pb pc pd fi) (fun _ _ _=>(0:Nat)) Q A H nx→WPS Y F Try.f36.ntmps 0 (.block 2 (blkAt 2 Try.f36)) Q A H nx :=
 loopW (E:=[]) (.nil) (O:=[(77,pureE e77)]) (.cons (pureE_ok s77) (.nil)) (ck:=true) (L:=[0,1,2,3,4,8,9,10,11,12,14,21,26,32,40,53]) (f:=Try.f36) (m:=0) (id:=2) (l:=(lp36b w ht s v0 v1 d0 d1 r ns x n sk sc sq sa sb m pk ps pa pb pc pd fi)) (LI:=fun i=>[]) Y hF (by kernel_rfl) (fun _=>.nil) (by
  rintro i hp
  exact Hold.of (q36b w ht s v0 v1 d0 d1 r ns x n sk sc sq sa sb m pk ps pa pb pc pd fi i) (bq36b w ht s v0 v1 d0 d1 r ns x n sk sc sq sa sb m pk ps pa pb pc pd fi i ((peq36b w ht s v0 v1 d0 d1 r ns x n sk sc sq sa sb m pk ps pa pb pc pd fi i).mp hp)))
def lp36 (w ht s v0 v1 d0 d1 r:Int) (ns:Nat) (x:Nat→Int) (n:Nat) (sk sc sq sa sb:Nat→Int) (m:Nat) (pk ps pa pb pc pd:Nat→Int):LoopS where
 ι:=Nat
 β:=Int
 pre fi:=fi≤m+1∧M.Gd.ok (M.Gd.mk w ht s v0 v1 d0 d1 r)∧M.Gd.all (M.Gd.mk w ht s v0 v1 d0 d1 r) ns x∧ns≤64∧n≤256∧(∀ i,i<n→M.Gd.Sok (M.Gd.mk w ht s v0 v1 d0 d1 r) ((fun i=>M.Sc.mk (sk i) (sc i) (sq i) (sa i) (sb i)) i))∧(∀ i,i<m→M.Pk.Vd ns ((fun i=>M.Pk.mk (pk i) (ps i) (pa i) (pb i) (pc i) (pd i)) i))∧m≤64
 μ fi:=m+1-fi
 next fi _ _ _:=fi+1
 out fi:=M.ixF (M.Gd.agE (M.Gd.mk w ht s v0 v1 d0 d1 r) x (fun i=>M.Sc.mk (sk i) (sc i) (sq i) (sa i) (sb i)) n m (fun i=>M.Pk.mk (pk i) (ps i) (pa i) (pb i) (pc i) (pd i))) (m+1-fi) fi
 early q:=decide (0≤q)
 SA fi:=[(1,.sl 1 ns (fun k=>[SI (x k)])),(2,.sl 5 n (fun j=>[SI (sk j),SI (sc j),SI (sq j),SI (sa j),SI (sb j)])),(3,.sl 6 m (fun j=>[SI (pk j),SI (ps j),SI (pa j),SI (pb j),SI (pc j),SI (pd j)])),(4,.ptr 0 0),(11,SI fi)]
 SH _:=[(0,.cells [SI w,SI ht,SI s,SI v0,SI v1,SI d0,SI d1,SI r])]
 n0:=1
 NA _:=[]
 NH _:=[]
 n1:=0
 RA q:=[(8,SI q),(9,SI 0)]
 RH _:=[]
def Rq36 (w ht s v0 v1 d0 d1 r:Int) (ns:Nat) (x:Nat→Int) (n:Nat) (sk sc sq sa sb:Nat→Int) (m:Nat) (pk ps pa pb pc pd:Nat→Int) (fi:Nat):Prop:=(fun (z7:Int) (z6:Nat) (z0:Nat→Nat→Int) (z1 z3 z4 z5 z9:Prop)=>(fun (z2:Bool) (z8:Int)=>(decide (z7≤(↑m:Int))=true→((0:Nat)≤n∧fi≤m∧z1)∧(z9∧z4∧z3∧z7=z7∧(0:Int)=(↑(0:Nat):Int)∧z5)∧(z2=false→R64 (z7+(1:Int))∧(fi+z6≤m+z6∧z1)∧m+z6-(fi+z6)<m+z6-fi∧z0 (m+z6-(fi+z6)) (fi+z6)=z8∧z9∧z4∧z3∧z7+(1:Int)=(↑(fi+z6):Int)∧z5)∧(z2=true→decide ((0:Int)≤z8)=true∧z7=z8∧(0:Int)=(0:Int)∧True))∧(decide (z7≤(↑m:Int))=false→decide ((0:Int)≤z8)=false∧True)) (decide ((0:Int)≤M.ixF (M.Gd.agQ (M.Gd.mk w ht s v0 v1 d0 d1 r) x (fun i=>M.Sc.mk (sk i) (sc i) (sq i) (sa i) (sb i)) m (fun i=>M.Pk.mk (pk i) (ps i) (pa i) (pb i) (pc i) (pd i)) z7) (n-(0:Nat)) (0:Nat))) (z0 (m+z6-fi) fi)) (↑fi:Int) (1:Nat) (M.ixF (M.Gd.agE (M.Gd.mk w ht s v0 v1 d0 d1 r) x (fun i=>M.Sc.mk (sk i) (sc i) (sq i) (sa i) (sb i)) n m fun i=>M.Pk.mk (pk i) (ps i) (pa i) (pb i) (pc i) (pd i))) (M.Gd.ok (M.Gd.mk w ht s v0 v1 d0 d1 r)∧M.Gd.all (M.Gd.mk w ht s v0 v1 d0 d1 r) ns x∧ns≤(64:Nat)∧n≤(256:Nat)∧(∀ (i:Nat),i<n→M.Gd.Sok (M.Gd.mk w ht s v0 v1 d0 d1 r) (M.Sc.mk (sk i) (sc i) (sq i) (sa i) (sb i)))∧(∀ (i:Nat),i<m→M.Pk.Vd ns (M.Pk.mk (pk i) (ps i) (pa i) (pb i) (pc i) (pd i)))∧m≤(64:Nat)) (m=m∧∀ (k:Nat),k<m→pk k=pk k∧ps k=ps k∧pa k=pa k∧pb k=pb k∧pc k=pc k∧pd k=pd k) (n=n∧∀ (k:Nat),k<n→sk k=sk k∧sc k=sc k∧sq k=sq k∧sa k=sa k∧sb k=sb k) (w=w∧ht=ht∧s=s∧v0=v0∧v1=v1∧d0=d0∧d1=d1∧r=r∧True) (ns=ns∧∀ (k:Nat),k<ns→x k=x k)
theorem q36 (w ht s v0 v1 d0 d1 r:Int) (ns:Nat) (x:Nat→Int) (n:Nat) (sk sc sq sa sb:Nat→Int) (m:Nat) (pk ps pa pb pc pd:Nat→Int) (fi:Nat):VL true [] [] YS.none Try.f36 0 [0,1,2,3,4,8,9,10,11,12,14,21,26,32,40,53] [(2,loopT false Try.f36.ntmps 0 (lp36b w ht s v0 v1 d0 d1 r ns x n sk sc sq sa sb m pk ps pa pb pc pd fi) (fun _ _ _=>(0:Nat)))] 0 (lp36 w ht s v0 v1 d0 d1 r ns x n sk sc sq sa sb m pk ps pa pb pc pd) (fi)=Rq36 w ht s v0 v1 d0 d1 r ns x n sk sc sq sa sb m pk ps pa pb pc pd fi:=by kernel_rfl
theorem peq36 (w ht s v0 v1 d0 d1 r:Int) (ns:Nat) (x:Nat→Int) (n:Nat) (sk sc sq sa sb:Nat→Int) (m:Nat) (pk ps pa pb pc pd:Nat→Int) (fi:Nat):(lp36 w ht s v0 v1 d0 d1 r ns x n sk sc sq sa sb m pk ps pa pb pc pd).pre (fi)=(fi≤m+(1:Nat) ∧
 M.Gd.ok (M.Gd.mk w ht s v0 v1 d0 d1 r) ∧
  M.Gd.all (M.Gd.mk w ht s v0 v1 d0 d1 r) ns x ∧
   ns≤(64:Nat) ∧
    n≤(256:Nat) ∧
     (∀ (i:Nat),i<n→M.Gd.Sok (M.Gd.mk w ht s v0 v1 d0 d1 r) (M.Sc.mk (sk i) (sc i) (sq i) (sa i) (sb i))) ∧
      (∀ (i:Nat),i<m→M.Pk.Vd ns (M.Pk.mk (pk i) (ps i) (pa i) (pb i) (pc i) (pd i)))∧m≤(64:Nat)):=by kernel_rfl
theorem bq36 (w ht s v0 v1 d0 d1 r:Int) (ns:Nat) (x:Nat→Int) (n:Nat) (sk sc sq sa sb:Nat→Int) (m:Nat) (pk ps pa pb pc pd:Nat→Int) (fi:Nat) (hp:fi≤m+(1:Nat) ∧
 M.Gd.ok (M.Gd.mk w ht s v0 v1 d0 d1 r) ∧
  M.Gd.all (M.Gd.mk w ht s v0 v1 d0 d1 r) ns x ∧
   ns≤(64:Nat) ∧
    n≤(256:Nat) ∧
     (∀ (i:Nat),i<n→M.Gd.Sok (M.Gd.mk w ht s v0 v1 d0 d1 r) (M.Sc.mk (sk i) (sc i) (sq i) (sa i) (sb i))) ∧
      (∀ (i:Nat),i<m→M.Pk.Vd ns (M.Pk.mk (pk i) (ps i) (pa i) (pb i) (pc i) (pd i)))∧m≤(64:Nat)):Rq36 w ht s v0 v1 d0 d1 r ns x n sk sc sq sa sb m pk ps pa pb pc pd fi:=by
 unfold Rq36
 dsimp -iota -proj -eta -zeta only
 obtain ⟨h1,hk,ha,hn,hn2,hs,hP,hm⟩:=id hp
 have r1:R64 ((fi:Int)+1):=by unfold R64; omega
 simp only [r1,Nat.sub_zero]
 by_cases hl:fi≤m
 ·have hl':(fi:Int)≤m:=by omega
  obtain ⟨q,hq⟩ : ∃ q,m+1-fi=q+1:=⟨m-fi,by omega⟩
  have hq':m+1-(fi+1)=q:=by omega
  have e:M.ixF (M.Gd.agE (M.Gd.mk w ht s v0 v1 d0 d1 r) x (fun i=>M.Sc.mk (sk i) (sc i) (sq i) (sa i) (sb i)) n m (fun i=>M.Pk.mk (pk i) (ps i) (pa i) (pb i) (pc i) (pd i))) (q+1) fi=if decide (0≤M.ixF (M.Gd.agQ (M.Gd.mk w ht s v0 v1 d0 d1 r) x (fun i=>M.Sc.mk (sk i) (sc i) (sq i) (sa i) (sb i)) m (fun i=>M.Pk.mk (pk i) (ps i) (pa i) (pb i) (pc i) (pd i)) (fi:Int)) n 0)=true then (fi:Int) else M.ixF (M.Gd.agE (M.Gd.mk w ht s v0 v1 d0 d1 r) x (fun i=>M.Sc.mk (sk i) (sc i) (sq i) (sa i) (sb i)) n m (fun i=>M.Pk.mk (pk i) (ps i) (pa i) (pb i) (pc i) (pd i))) q (fi+1):=rfl
  simp only [hq,hq',e]
  clear e
  generalize M.ixF (M.Gd.agQ (M.Gd.mk w ht s v0 v1 d0 d1 r) x (fun i=>M.Sc.mk (sk i) (sc i) (sq i) (sa i) (sb i)) m (fun i=>M.Pk.mk (pk i) (ps i) (pa i) (pb i) (pc i) (pd i)) (fi:Int)) n 0=u at *
  by_cases c:0≤u
  ·simp [hl,hl',c,hk,ha,hn,hn2,hm]
   repeat' apply And.intro
   all_goals first | omega | exact hP | exact hs | skip
  ·simp [hl,hl',c,hk,ha,hn,hn2,hm]
   repeat' apply And.intro
   all_goals first | omega | exact hP | exact hs | skip
 ·have e:m+1-fi=0:=by omega
  have hl':¬ (fi:Int)≤m:=by omega
  simp [hl',e,M.ixF]
theorem t36 (w ht s v0 v1 d0 d1 r:Int) (ns:Nat) (x:Nat→Int) (n:Nat) (sk sc sq sa sb:Nat→Int) (m:Nat) (pk ps pa pb pc pd:Nat→Int) {F:Fence} (hF:FOK F) (Y:YEnv PP YS.none):∀ Q A H nx,loopT false Try.f36.ntmps 0 (lp36 w ht s v0 v1 d0 d1 r ns x n sk sc sq sa sb m pk ps pa pb pc pd) (fun _ _ _=>(0:Nat)) Q A H nx→WPS Y F Try.f36.ntmps 0 (.block 0 (blkAt 0 Try.f36)) Q A H nx :=
 loopW (E:=[]) (.nil) (O:=[]) (.nil) (ck:=true) (L:=[0,1,2,3,4,8,9,10,11,12,14,21,26,32,40,53]) (f:=Try.f36) (m:=0) (id:=0) (l:=(lp36 w ht s v0 v1 d0 d1 r ns x n sk sc sq sa sb m pk ps pa pb pc pd)) (LI:=fun (fi:Nat)=>[(2,loopT false Try.f36.ntmps 0 (lp36b w ht s v0 v1 d0 d1 r ns x n sk sc sq sa sb m pk ps pa pb pc pd fi) (fun _ _ _=>(0:Nat)))]) Y hF (by kernel_rfl) (fun (fi:Nat)=>.cons (by kernel_rfl) (t36b w ht s v0 v1 d0 d1 r ns x n sk sc sq sa sb m pk ps pa pb pc pd fi hF Y) (.nil)) (by
  rintro fi hp
  exact Hold.of (q36 w ht s v0 v1 d0 d1 r ns x n sk sc sq sa sb m pk ps pa pb pc pd fi) (bq36 w ht s v0 v1 d0 d1 r ns x n sk sc sq sa sb m pk ps pa pb pc pd fi ((peq36 w ht s v0 v1 d0 d1 r ns x n sk sc sq sa sb m pk ps pa pb pc pd fi).mp hp)))
def e36:List SV→Option (List Prop × SV)
 | [.agg [.int .i64 w,.int .i64 ht,.int .i64 s,.int .i64 v0,.int .i64 v1,.int .i64 d0,.int .i64 d1,.int .i64 r],.sl 1 ns g_1,.sl 5 n g_2,.sl 6 m g_3]=>some ([Row 1 ns g_1,Row 5 n g_2,Row 6 m g_3,ns≤100000,n≤9223372036854775807,m≤100000],.tup [SI (if (M.Gd.ckE (M.Gd.mk w ht s v0 v1 d0 d1 r) ns (cI g_1 0) n (fun i=>M.Sc.mk ((cI g_2 0) i) ((cI g_2 1) i) ((cI g_2 2) i) ((cI g_2 3) i) ((cI g_2 4) i)) m (fun i=>M.Pk.mk ((cI g_3 0) i) ((cI g_3 1) i) ((cI g_3 2) i) ((cI g_3 3) i) ((cI g_3 4) i) ((cI g_3 5) i)) 0)=0 then M.Gd.agA (M.Gd.mk w ht s v0 v1 d0 d1 r) (cI g_1 0) (fun i=>M.Sc.mk ((cI g_2 0) i) ((cI g_2 1) i) ((cI g_2 2) i) ((cI g_2 3) i) ((cI g_2 4) i)) m (fun i=>M.Pk.mk ((cI g_3 0) i) ((cI g_3 1) i) ((cI g_3 2) i) ((cI g_3 3) i) ((cI g_3 4) i) ((cI g_3 5) i)) n else 0),SI (M.Gd.ckE (M.Gd.mk w ht s v0 v1 d0 d1 r) ns (cI g_1 0) n (fun i=>M.Sc.mk ((cI g_2 0) i) ((cI g_2 1) i) ((cI g_2 2) i) ((cI g_2 3) i) ((cI g_2 4) i)) m (fun i=>M.Pk.mk ((cI g_3 0) i) ((cI g_3 1) i) ((cI g_3 2) i) ((cI g_3 3) i) ((cI g_3 4) i) ((cI g_3 5) i)) 0)])
 | _=>none
def Rr36 (w ht s v0 v1 d0 d1 r:Int) (ns:Nat) (x:Nat→Int) (n:Nat) (sk sc sq sa sb:Nat→Int) (m:Nat) (pk ps pa pb pc pd:Nat→Int):Prop:=(fun (z6:Int) (z5:M.Gd) (z3 z4 z7:Prop)=>(fun (z0 z1:Int)=>(fun (z2:Int)=>z7∧z4∧z3∧ns≤(100000:Nat)∧n≤(9223372036854775807:Nat)∧m≤(100000:Nat)∧((!decide (z0=z6))=true→(z6=z2)∧z0=z0)∧((!decide (z0=z6))=false→((0:Nat)≤m+(1:Nat)∧M.Gd.ok z5∧M.Gd.all z5 ns x∧ns≤(64:Nat)∧n≤(256:Nat)∧(∀ (i:Nat),i<n→M.Gd.Sok z5 (M.Sc.mk (sk i) (sc i) (sq i) (sa i) (sb i)))∧(∀ (i:Nat),i<m→M.Pk.Vd ns (M.Pk.mk (pk i) (ps i) (pa i) (pb i) (pc i) (pd i)))∧m≤(64:Nat))∧((ns=ns∧z7)∧(n=n∧z4)∧(m=m∧z3)∧z6=(↑(0:Nat):Int)∧w=w∧ht=ht∧s=s∧v0=v0∧v1=v1∧d0=d0∧d1=d1∧r=r∧True)∧(decide (z6≤z1)=false→((- 1:Int)=z2)∧z6=z0)∧(decide (z6≤z1)=true→(z1=z2)∧z6=z0))) (if z0=z6 then M.Gd.agA z5 x (fun i=>M.Sc.mk (sk i) (sc i) (sq i) (sa i) (sb i)) m (fun i=>M.Pk.mk (pk i) (ps i) (pa i) (pb i) (pc i) (pd i)) n else z6)) (M.Gd.ckE z5 ns x n (fun i=>M.Sc.mk (sk i) (sc i) (sq i) (sa i) (sb i)) m (fun i=>M.Pk.mk (pk i) (ps i) (pa i) (pb i) (pc i) (pd i)) z6) (M.ixF (M.Gd.agE z5 x (fun i=>M.Sc.mk (sk i) (sc i) (sq i) (sa i) (sb i)) n m fun i=>M.Pk.mk (pk i) (ps i) (pa i) (pb i) (pc i) (pd i)) (m+(1:Nat)-(0:Nat)) (0:Nat))) (0:Int) (M.Gd.mk w ht s v0 v1 d0 d1 r) (∀ (k:Nat),k<m→pk k=pk k∧ps k=ps k∧pa k=pa k∧pb k=pb k∧pc k=pc k∧pd k=pd k) (∀ (k:Nat),k<n→sk k=sk k∧sc k=sc k∧sq k=sq k∧sa k=sa k∧sb k=sb k) (∀ (k:Nat),k<ns→x k=x k)
theorem r36 (w ht s v0 v1 d0 d1 r:Int) (ns:Nat) (x:Nat→Int) (n:Nat) (sk sc sq sa sb:Nat→Int) (m:Nat) (pk ps pa pb pc pd:Nat→Int):V true [] [(61,pureE e61w)] Try.f36 [0,1,2,3,4,8,9,10,11,12,14,21,26,32,40,53] [(0,loopT false Try.f36.ntmps 0 (lp36 w ht s v0 v1 d0 d1 r ns x n sk sc sq sa sb m pk ps pa pb pc pd) (fun _ _ _=>(0:Nat)))] [.agg [SI w,SI ht,SI s,SI v0,SI v1,SI d0,SI d1,SI r],.sl 1 ns (fun k=>[SI (x k)]),.sl 5 n (fun k=>[SI (sk k),SI (sc k),SI (sq k),SI (sa k),SI (sb k)]),.sl 6 m (fun k=>[SI (pk k),SI (ps k),SI (pa k),SI (pb k),SI (pc k),SI (pd k)])] (.tup [SI (if (M.Gd.ckE (M.Gd.mk w ht s v0 v1 d0 d1 r) ns x n (fun i=>M.Sc.mk (sk i) (sc i) (sq i) (sa i) (sb i)) m (fun i=>M.Pk.mk (pk i) (ps i) (pa i) (pb i) (pc i) (pd i)) 0)=0 then M.Gd.agA (M.Gd.mk w ht s v0 v1 d0 d1 r) x (fun i=>M.Sc.mk (sk i) (sc i) (sq i) (sa i) (sb i)) m (fun i=>M.Pk.mk (pk i) (ps i) (pa i) (pb i) (pc i) (pd i)) n else 0),SI (M.Gd.ckE (M.Gd.mk w ht s v0 v1 d0 d1 r) ns x n (fun i=>M.Sc.mk (sk i) (sc i) (sq i) (sa i) (sb i)) m (fun i=>M.Pk.mk (pk i) (ps i) (pa i) (pb i) (pc i) (pd i)) 0)])=Rr36 w ht s v0 v1 d0 d1 r ns x n sk sc sq sa sb m pk ps pa pb pc pd:=by kernel_rfl
theorem br36 (w ht s v0 v1 d0 d1 r:Int) (ns:Nat) (x:Nat→Int) (n:Nat) (sk sc sq sa sb:Nat→Int) (m:Nat) (pk ps pa pb pc pd:Nat→Int) (hp:(ns≤100000)∧(n≤9223372036854775807)∧(m≤100000)∧AllP []):Rr36 w ht s v0 v1 d0 d1 r ns x n sk sc sq sa sb m pk ps pa pb pc pd:=by
 unfold Rr36
 dsimp -iota -proj -eta -zeta only
 obtain ⟨h1,h2,h3,-⟩:=id hp
 by_cases c:(M.Gd.ckE (M.Gd.mk w ht s v0 v1 d0 d1 r) ns x n (fun i=>M.Sc.mk (sk i) (sc i) (sq i) (sa i) (sb i)) m (fun i=>M.Pk.mk (pk i) (ps i) (pa i) (pb i) (pc i) (pd i)) 0)=0
 ·obtain ⟨hk,hn,ha,⟨hn2,hs⟩,hm,hP,f1,f2⟩:=M.Gd.ckE_ok.1 c
  have e:=M.agree_eq (g:=(M.Gd.mk w ht s v0 v1 d0 d1 r)) (x:=x) (S:=(fun i=>M.Sc.mk (sk i) (sc i) (sq i) (sa i) (sb i))) (n:=n) (m:=m) (P:=(fun i=>M.Pk.mk (pk i) (ps i) (pa i) (pb i) (pc i) (pd i))) hk ha hs hP
  have b:=(M.Gd.agA_inv (g:=(M.Gd.mk w ht s v0 v1 d0 d1 r)) (x:=x) (S:=(fun i=>M.Sc.mk (sk i) (sc i) (sq i) (sa i) (sb i))) (m:=m) (P:=(fun i=>M.Pk.mk (pk i) (ps i) (pa i) (pb i) (pc i) (pd i))) hk ha hs hP n (Nat.le_refl n)).1
  simp only [Nat.sub_zero,e]
  generalize M.Gd.agA (M.Gd.mk w ht s v0 v1 d0 d1 r) x (fun i=>M.Sc.mk (sk i) (sc i) (sq i) (sa i) (sb i)) m (fun i=>M.Pk.mk (pk i) (ps i) (pa i) (pb i) (pc i) (pd i)) n=A at *
  simp [c,h1,h2,h3,hk,hn,ha,hn2,hm]
  repeat' apply And.intro
  all_goals first | omega | exact hP | exact hs
 ·simp [c,h1,h2,h3]
theorem s36:PureOK PP 36 e36:=by
 intro xs ps res h hp
 unfold e36 at h
 split at h
 ·rename_i w ht s v0 v1 d0 d1 r ns g_1 n g_2 m g_3
  cases h
  simp only [AllP.cons] at hp
  obtain ⟨Hg_1,Hg_2,Hg_3,hp⟩:=hp
  exact Spec.args (enterH (Hold.of (r36 w ht s v0 v1 d0 d1 r ns (cI g_1 0) n (cI g_2 0) (cI g_2 1) (cI g_2 2) (cI g_2 3) (cI g_2 4) m (cI g_3 0) (cI g_3 1) (cI g_3 2) (cI g_3 3) (cI g_3 4) (cI g_3 5)) (br36 w ht s v0 v1 d0 d1 r ns (cI g_1 0) n (cI g_2 0) (cI g_2 1) (cI g_2 2) (cI g_2 3) (cI g_2 4) m (cI g_3 0) (cI g_3 1) (cI g_3 2) (cI g_3 3) (cI g_3 4) (cI g_3 5) hp)) (.nil) (.cons (pureE_ok s61w) (.nil)) (k:=36) (by kernel_rfl) (by kernel_rfl) (fun Y=>.cons (by kernel_rfl) (t36 w ht s v0 v1 d0 d1 r ns (cI g_1 0) n (cI g_2 0) (cI g_2 1) (cI g_2 2) (cI g_2 3) (cI g_2 4) m (cI g_3 0) (cI g_3 1) (cI g_3 2) (cI g_3 3) (cI g_3 4) (cI g_3 5) FOK.wide Y) (.nil))) (.cons (.refl _) (.cons (.row Hg_1 fun _=>rfl) (.cons (.row Hg_2 fun _=>rfl) (.cons (.row Hg_3 fun _=>rfl) .nil))))
 ·cases h
def e9:List SV→Option (List Prop × SV)
 | [.agg [.int .i64 w,.int .i64 ht,.int .i64 s,.int .i64 v0,.int .i64 v1,.int .i64 d0,.int .i64 d1,.int .i64 r],.sl 1 ns g_1,.sl 5 n g_2,.sl 6 m g_3]=>some ([Row 1 ns g_1,Row 5 n g_2,Row 6 m g_3,R64 (n:Int)],.bool true)
 | _=>none
def Rr9 (w ht s v0 v1 d0 d1 r:Int) (ns:Nat) (x:Nat→Int) (n:Nat) (sk sc sq sa sb:Nat→Int) (m:Nat) (pk ps pa pb pc pd:Nat→Int):Prop:=(fun (z1:Bool) (z2:Int) (z12:Nat) (z3 z4 z8 z11:Prop)=>(fun (z7:Bool) (z0:Int) (z5:Prop)=>(fun (z6:Bool)=>(fun (z9:Bool) (z10:Prop)=>(z4→z4)∧(z4→z4)∧(decide ((70:Int)<(↑ns:Int))=false→z4)∧z5∧z5∧z5∧z5∧z5∧(z1=false→(!z1)=true)∧(z7=true→true=true)∧(z7=false→z11∧z8∧z3∧ns≤z12∧n≤(9223372036854775807:Nat)∧m≤z12∧z3∧m≤(1000:Nat)∧z11∧z8∧z3∧ns≤z12∧n≤(9223372036854775807:Nat)∧m≤z12∧z10∧z10∧z10∧(z9=true→z9=true)∧(bif z9 then true else false)=true)) (bif z6 then decide (z2=z2) else false) (z6=true→z6=true)) (decide (z0=z0))) (bif z1 then true else decide ((1200:Int)<IntKind.wrap IntKind.i64 ((↑n:Int)*(↑m:Int)))) (if z2=(0:Int) then M.Gd.agA (M.Gd.mk w ht s v0 v1 d0 d1 r) x (fun i=>M.Sc.mk (sk i) (sc i) (sq i) (sa i) (sb i)) m (fun i=>M.Pk.mk (pk i) (ps i) (pa i) (pb i) (pc i) (pd i)) n else (0:Int)) ((!z1)=true→(!z1)=true)) (bif decide ((70:Int)<(↑ns:Int)) then true else decide ((70:Int)<(↑m:Int))) (M.Gd.ckE (M.Gd.mk w ht s v0 v1 d0 d1 r) ns x n (fun i=>M.Sc.mk (sk i) (sc i) (sq i) (sa i) (sb i)) m (fun i=>M.Pk.mk (pk i) (ps i) (pa i) (pb i) (pc i) (pd i)) (0:Int)) (100000:Nat) (∀ (k:Nat),k<m→pk k=pk k∧ps k=ps k∧pa k=pa k∧pb k=pb k∧pc k=pc k∧pd k=pd k) ((!decide ((70:Int)<(↑ns:Int)))=true) (∀ (k:Nat),k<n→sk k=sk k∧sc k=sc k∧sq k=sq k∧sa k=sa k∧sb k=sb k) (∀ (k:Nat),k<ns→x k=x k)
theorem r9 (w ht s v0 v1 d0 d1 r:Int) (ns:Nat) (x:Nat→Int) (n:Nat) (sk sc sq sa sb:Nat→Int) (m:Nat) (pk ps pa pb pc pd:Nat→Int):V false [] [(17,pureE e17),(20,pureE e20),(35,pureE e35),(36,pureE e36)] Try.f9 [0,1,2,3,4,8,9,10,11,12,28] [] [.agg [SI w,SI ht,SI s,SI v0,SI v1,SI d0,SI d1,SI r],.sl 1 ns (fun k=>[SI (x k)]),.sl 5 n (fun k=>[SI (sk k),SI (sc k),SI (sq k),SI (sa k),SI (sb k)]),.sl 6 m (fun k=>[SI (pk k),SI (ps k),SI (pa k),SI (pb k),SI (pc k),SI (pd k)])] (.bool true)=Rr9 w ht s v0 v1 d0 d1 r ns x n sk sc sq sa sb m pk ps pa pb pc pd:=by kernel_rfl
theorem br9 (w ht s v0 v1 d0 d1 r:Int) (ns:Nat) (x:Nat→Int) (n:Nat) (sk sc sq sa sb:Nat→Int) (m:Nat) (pk ps pa pb pc pd:Nat→Int) (hp:(R64 (n:Int))∧AllP []):Rr9 w ht s v0 v1 d0 d1 r ns x n sk sc sq sa sb m pk ps pa pb pc pd:=by
 unfold Rr9
 dsimp -iota -proj -eta -zeta only
 obtain ⟨hR,-⟩:=id hp
 have hn:n≤9223372036854775807:=by unfold R64 at hR; omega
 by_cases h1:ns≤70
 ·have h1':¬ (70:Int)<ns:=by omega
  by_cases h2:m≤70
  ·have h2':¬ (70:Int)<m:=by omega
   simp [h1,h2,h1',h2',hn]
   try omega
  ·have h2':(70:Int)<m:=by omega
   simp [h1',h2']
 ·have h1':(70:Int)<ns:=by omega
  simp [h1']
theorem s9:PureOK PP 9 e9:=by
 intro xs ps res h hp
 unfold e9 at h
 split at h
 ·rename_i w ht s v0 v1 d0 d1 r ns g_1 n g_2 m g_3
  cases h
  simp only [AllP.cons] at hp
  obtain ⟨Hg_1,Hg_2,Hg_3,hp⟩:=hp
  exact Spec.args (enterH (Hold.of (r9 w ht s v0 v1 d0 d1 r ns (cI g_1 0) n (cI g_2 0) (cI g_2 1) (cI g_2 2) (cI g_2 3) (cI g_2 4) m (cI g_3 0) (cI g_3 1) (cI g_3 2) (cI g_3 3) (cI g_3 4) (cI g_3 5)) (br9 w ht s v0 v1 d0 d1 r ns (cI g_1 0) n (cI g_2 0) (cI g_2 1) (cI g_2 2) (cI g_2 3) (cI g_2 4) m (cI g_3 0) (cI g_3 1) (cI g_3 2) (cI g_3 3) (cI g_3 4) (cI g_3 5) hp)) (.nil) (.cons (pureE_ok s17) (.cons (pureE_ok s20) (.cons (pureE_ok s35) (.cons (pureE_ok s36) (.nil))))) (k:=9) (by kernel_rfl) (by kernel_rfl) (fun _=>.nil)) (.cons (.refl _) (.cons (.row Hg_1 fun _=>rfl) (.cons (.row Hg_2 fun _=>rfl) (.cons (.row Hg_3 fun _=>rfl) .nil))))
 ·cases h
end Go.Proofs.Ytoncoofmijjgeaa.Sep
