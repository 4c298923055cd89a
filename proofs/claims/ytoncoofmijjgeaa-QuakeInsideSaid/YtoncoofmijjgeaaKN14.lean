/-
  Texts of one seat, joined. No condition. (This text proves no statement by itself.)
-/
import Derived.Test.YtoncoofmijjgeaaKR13
import Derived.Test.YtoncoofmijjgeaaKSep21
import Derived.Test.YtoncoofmijjgeaaKR10
namespace Go.Proofs.Ytoncoofmijjgeaa.M
open Go
set_option linter.unusedVariables false
set_option linter.unusedSimpArgs false
def nxF (c : Nat → Bool) : Nat → Nat → Nat
 | 0, k => k
 | f + 1, k => if c k = true then k else nxF c f (k + 1)
theorem nxF_end {c : Nat → Bool} {m k : Nat} (h : m ≤ k) : nxF c (m - k) k = k := by
 rw [show m - k = 0 by omega]; rfl
theorem nxF_stop {c : Nat → Bool} {m k : Nat} (h : k < m) (hc : c k = true) : nxF c (m - k) k = k := by
 obtain ⟨r, hr⟩ : ∃ r, m - k = r + 1 := ⟨m - k - 1, by omega⟩
 rw [hr]; unfold nxF; rw [if_pos hc]
theorem nxF_step {c : Nat → Bool} {m k : Nat} (h : k < m) (hc : c k = false) : nxF c (m - k) k = nxF c (m - (k + 1)) (k + 1) := by
 rw [show m - k = m - (k + 1) + 1 by omega]
 conv => lhs; unfold nxF
 rw [if_neg (by simp [hc])]
theorem nxF_le {c : Nat → Bool} {m : Nat} : ∀ {f k : Nat}, f = m - k → k ≤ m → k ≤ nxF c f k ∧ nxF c f k ≤ m
 | 0, k, h, h' => by unfold nxF; omega
 | f + 1, k, h, h' => by
  unfold nxF
  split
  ·omega
  ·have := nxF_le (c := c) (m := m) (f := f) (k := k + 1) (by omega) (by omega); omega
theorem nxF_min {c : Nat → Bool} {m j : Nat} (hj : j < m) (hc : c j = true) : ∀ {f k : Nat}, f = m - k → k ≤ j → nxF c f k ≤ j ∧ c (nxF c f k) = true
 | 0, k, h, h' => by omega
 | f + 1, k, h, h' => by
  unfold nxF
  split
  ·rename_i h2; exact ⟨h', h2⟩
  ·rename_i h2
   have : k ≠ j := fun e => by subst e; exact h2 hc
   exact nxF_min hj hc (by omega) (by omega)
def inB (z t : Sc) : Bool := decide (t.k = z.k ∧ t.c = z.c ∧ t.q = z.q ∧ t.a ≤ z.a ∧ z.b ≤ t.b)
def inF (s t : Nat → Sc) (m : Nat) : Nat → Nat → Nat → Bool
 | 0, _, _ => true
 | f + 1, i, k => if nxF (fun j => inB (s i) (t j)) (m - k) k = m then false else inF s t m f (i + 1) (nxF (fun j => inB (s i) (t j)) (m - k) k + 1)
theorem inF_end {s t : Nat → Sc} {n m i k : Nat} (h : n ≤ i) : inF s t m (n - i) i k = true := by
 rw [show n - i = 0 by omega]; rfl
theorem inF_step {s t : Nat → Sc} {n m i k : Nat} (h : i < n) : inF s t m (n - i) i k = if nxF (fun j => inB (s i) (t j)) (m - k) k = m then false else inF s t m (n - (i + 1)) (i + 1) (nxF (fun j => inB (s i) (t j)) (m - k) k + 1) := by
 rw [show n - i = n - (i + 1) + 1 by omega]
 conv => lhs; unfold inF
theorem inF_of {s t : Nat → Sc} {n m : Nat} {p : Nat → Nat} (hp : ∀ i, i < n → p i < m ∧ inB (s i) (t (p i)) = true) (hm : ∀ i, i + 1 < n → p i < p (i + 1)) : ∀ {f i k : Nat}, f = n - i → (i < n → k ≤ p i) → k ≤ m → inF s t m f i k = true
 | 0, i, k, h, h1, h2 => rfl
 | f + 1, i, k, h, h1, h2 => by
  obtain ⟨a1, a2⟩ := hp i (by omega)
  obtain ⟨b1, b2⟩ := nxF_min (c := fun j => inB (s i) (t j)) a1 a2 (f := m - k) (k := k) rfl (h1 (by omega))
  unfold inF
  rw [if_neg (by omega)]
  refine inF_of hp hm (by omega) (fun h3 => ?_) (by omega)
  have := hm i (by omega)
  omega
def ins (n m : Nat) (s t : Nat → Sc) : Bool := inF s t m n 0 0
inductive Sub : List Sc → List Sc → Prop
 | nil (b : List Sc) : Sub [] b
 | skip {a b : List Sc} (y : Sc) (h : Sub a b) : Sub a (y :: b)
 | cons {a b : List Sc} {x y : Sc} (hx : inB x y = true) (h : Sub a b) : Sub (x :: a) (y :: b)
theorem Sub.app {a b a' b' : List Sc} (h : Sub a b) (h' : Sub a' b') : Sub (a ++ a') (b ++ b') := by
 induction h with
 | nil b =>
  induction b with
  | nil => exact h'
  | cons y b ih => exact .skip y ih
 | skip y h ih => exact .skip y ih
 | cons hx h ih => exact .cons hx ih
theorem Sub.one {x y : Sc} (h : inB x y = true) : Sub [x] [y] := .cons h (.nil [])
theorem Sub.map {a b : List Sc} (h : Sub a b) : ∃ p : Nat → Nat, (∀ i, i < a.length → p i < b.length ∧ inB (scR a i) (scR b (p i)) = true) ∧ ∀ i, i + 1 < a.length → p i < p (i + 1) := by
 induction h with
 | nil b => exact ⟨fun _ => 0, fun i h => by simp at h, fun i h => by simp at h⟩
 | skip y h ih =>
  obtain ⟨p, h1, h2⟩ := ih
  exact ⟨fun i => p i + 1, fun i hi => ⟨by have := (h1 i hi).1; simp; omega, (h1 i hi).2⟩, fun i hi => by have := h2 i hi; simp only []; omega⟩
 | cons hx h ih =>
  obtain ⟨p, h1, h2⟩ := ih
  refine ⟨fun i => match i with | 0 => 0 | i + 1 => p i + 1, fun i hi => ?_, fun i hi => ?_⟩
  ·cases i with
   | zero => exact ⟨by simp, hx⟩
   | succ i =>
    simp only [List.length_cons] at hi
    exact ⟨by have := (h1 i (by omega)).1; simp; omega, (h1 i (by omega)).2⟩
  ·cases i with
   | zero => simp
   | succ i =>
    simp only [List.length_cons] at hi
    have := h2 i (by omega)
    simp only []; omega
theorem Sub.ins {a b : List Sc} (h : Sub a b) : ins a.length b.length (scR a) (scR b) = true := by
 obtain ⟨p, h1, h2⟩ := h.map
 exact inF_of h1 h2 rfl (fun _ => Nat.zero_le _) (Nat.zero_le _)
theorem fm_sub {o o' : Nat → Option Sc} : ∀ {n : Nat}, (∀ i, i < n → ∀ z, o i = some z → ∃ y, o' i = some y ∧ inB z y = true) → Sub (fmL o n) (fmL o' n)
 | 0, h => .nil _
 | n + 1, h => by
  have ih := fm_sub (o := o) (o' := o') (n := n) (fun i hi => h i (by omega))
  unfold fmL
  cases e : o n with
  | none =>
   cases e' : o' n with
   | none => exact ih
   | some y => have := ih.app (Sub.nil [y]); simpa using this
  | some z =>
   obtain ⟨y, hy, hz⟩ := h n (by omega) z e
   rw [hy]
   exact ih.app (Sub.one hz)
theorem fm_ins {o o' : Nat → Option Sc} {n : Nat} (h : ∀ i, i < n → ∀ z, o i = some z → ∃ y, o' i = some y ∧ inB z y = true) : ins (fmN o n) (fmN o' n) (fmR o n) (fmR o' n) = true := (fm_sub h).ins
theorem inB_refl (z : Sc) : inB z z = true := by unfold inB; simp
end Go.Proofs.Ytoncoofmijjgeaa.M
namespace Go.Proofs.Ytoncoofmijjgeaa.M
end Go.Proofs.Ytoncoofmijjgeaa.M
namespace Go.Proofs.Ytoncoofmijjgeaa.Sep
open Go
set_option linter.unusedVariables false
set_option linter.unusedSimpArgs false
def lp23b (n m:Nat) (sk sc sq sa sb:Nat→Int) (tk tc tq ta tb:Nat→Int) (i k0:Nat):LoopS where
 ι:=Nat
 β:=Nat
 pre k:=k≤m∧i<n∧n≤100000∧m≤100000
 μ k:=m-k
 next k _ _ _:=k+1
 out k:=M.nxF (fun j=>M.inB (M.Sc.mk (sk i) (sc i) (sq i) (sa i) (sb i)) ((fun i=>M.Sc.mk (tk i) (tc i) (tq i) (ta i) (tb i)) j)) (m-k) k
 early _:=false
 SA k:=[(0,.sl 5 n (fun j=>[SI (sk j),SI (sc j),SI (sq j),SI (sa j),SI (sb j)])),(1,.sl 5 m (fun j=>[SI (tk j),SI (tc j),SI (tq j),SI (ta j),SI (tb j)])),(4,.bool false),(5,SI k),(6,SI i)]
 SH _:=[]
 n0:=0
 NA k:=[(0,.sl 5 n (fun j=>[SI (sk j),SI (sc j),SI (sq j),SI (sa j),SI (sb j)])),(1,.sl 5 m (fun j=>[SI (tk j),SI (tc j),SI (tq j),SI (ta j),SI (tb j)])),(4,.bool false),(5,SI k),(6,SI i)]
 NH _:=[]
 n1:=0
 RA _:=[]
 RH _:=[]
def Rq23b (n m:Nat) (sk sc sq sa sb:Nat→Int) (tk tc tq ta tb:Nat→Int) (i k0:Nat) (k:Nat):Prop:=(fun (z7 z13:Int) (z24:Nat) (z9:Nat→Nat→Nat) (z11 z12:Prop)=>(fun (z1:Bool) (z8 z16:Nat) (z19 z20 z21 z23:Prop)=>(fun (z0:Bool) (z2 z4 z22:Prop)=>(fun (z10:Bool) (z3 z5 z6 z17 z18:Prop)=>(fun (z14 z15:Prop)=>z6∧z6∧(z22→z20)∧(z22→z19)∧z6∧z6∧(z22→z8<m)∧z6∧z6∧(z22→z23)∧(z22→z21)∧z6∧z6∧(z22→z16<n)∧z6∧z6∧z6∧z17∧z17∧(z4→z20)∧(z4→z19)∧z17∧z17∧(z4→z8<m)∧z17∧z17∧(z4→z23)∧(z4→z21)∧z17∧z17∧(z4→z16<n)∧z17∧z17∧z6∧(z22→(!decide (tk z8=sk z16))=false→z4)∧z6∧z18∧z18∧(z2→z20)∧(z2→z19)∧z18∧z18∧(z2→z8<m)∧z18∧z18∧(z2→z23)∧(z2→z21)∧z18∧z18∧(z2→z16<n)∧z18∧z18∧z6∧(z22→(bif !decide (tk z8=sk z16) then true else !decide (tc z8=sc z16))=false→z2)∧z6∧z14∧z14∧(z5→z20)∧(z5→z19)∧z14∧z14∧z14∧(z5→z8<m)∧z14∧z14∧(z5→z23)∧(z5→z21)∧z14∧z14∧z14∧(z5→z16<n)∧z14∧z14∧z6∧(z22→z0=false→z5)∧z6∧z15∧z15∧(z3→z20)∧(z3→z19)∧z15∧z15∧z15∧(z3→z8<m)∧z15∧z15∧(z3→z23)∧(z3→z21)∧z15∧z15∧z15∧(z3→z16<n)∧z15∧z15∧z6∧(z22→(bif z0 then true else decide (sa z16<ta z8))=false→z3)∧z6∧(z10=true→R64 (z13+(1:Int))∧(z24≤m∧i<n∧n≤(100000:Nat)∧m≤(100000:Nat))∧m-z24<m-k∧z9 (m-z24) z24=z9 (m-k) k∧z11∧z12∧false=false∧z13+(1:Int)=(↑z24:Int)∧z7=z7∧True)∧(z10=false→false=false∧z11∧z12∧false=false∧z13=(↑(z9 (m-k) k):Int)∧z7=z7∧True)) (z5→z5) (z3→z3)) (bif z1 then bif bif z0 then true else decide (sa z16<ta z8) then true else decide (tb z8<sb z16) else false) ((z1 && !bif z0 then true else decide (sa z16<ta z8))=true) ((z1 && !z0)=true) (z22→z22) (z4→z4) (z2→z2)) (bif bif !decide (tk z8=sk z16) then true else !decide (tc z8=sc z16) then true else !decide (tq z8=sq z16)) ((z1 && !bif !decide (tk z8=sk z16) then true else !decide (tc z8=sc z16))=true) ((z1 && !!decide (tk z8=sk z16))=true) (z1=true)) (decide (z13<(↑m:Int))) (Int.toNat z13) (Int.toNat z7) (z13<(↑m:Int)) ((0:Int)≤z13) (z7<(↑n:Int)) ((0:Int)≤z7)) (↑i:Int) (↑k:Int) (k+(1:Nat)) (M.nxF (fun j=>M.inB (M.Sc.mk (sk i) (sc i) (sq i) (sa i) (sb i)) (M.Sc.mk (tk j) (tc j) (tq j) (ta j) (tb j)))) (n=n∧∀ (k:Nat),k<n→sk k=sk k∧sc k=sc k∧sq k=sq k∧sa k=sa k∧sb k=sb k) (m=m∧∀ (k:Nat),k<m→tk k=tk k∧tc k=tc k∧tq k=tq k∧ta k=ta k∧tb k=tb k)
theorem q23b (n m:Nat) (sk sc sq sa sb:Nat→Int) (tk tc tq ta tb:Nat→Int) (i k0:Nat) (k:Nat):VL true [] [] YS.none Try.f23 0 [0,1,4,5,6,10,85,91] [] 2 (lp23b n m sk sc sq sa sb tk tc tq ta tb i k0) (k)=Rq23b n m sk sc sq sa sb tk tc tq ta tb i k0 k:=by kernel_rfl
theorem peq23b (n m:Nat) (sk sc sq sa sb:Nat→Int) (tk tc tq ta tb:Nat→Int) (i k0:Nat) (k:Nat):(lp23b n m sk sc sq sa sb tk tc tq ta tb i k0).pre (k)=(k≤m∧i<n∧n≤(100000:Nat)∧m≤(100000:Nat)):=by kernel_rfl
theorem bq23b (n m:Nat) (sk sc sq sa sb:Nat→Int) (tk tc tq ta tb:Nat→Int) (i k0:Nat) (k:Nat) (hp:k≤m∧i<n∧n≤(100000:Nat)∧m≤(100000:Nat)):Rq23b n m sk sc sq sa sb tk tc tq ta tb i k0 k:=by
 unfold Rq23b
 dsimp -iota -proj -eta -zeta only
 obtain ⟨h1,h2,h3,h4⟩:=id hp
 have r1:R64 ((k:Int)+1):=by unfold R64; omega
 simp only [Int.toNat_natCast,r1]
 by_cases hl:k<m
 ·have hl':(k:Int)<m:=by omega
  have h2':(i:Int)<n:=by omega
  cases hc:(fun j=>M.inB (M.Sc.mk (sk i) (sc i) (sq i) (sa i) (sb i)) ((fun i=>M.Sc.mk (tk i) (tc i) (tq i) (ta i) (tb i)) j)) k with
  | true =>
   rw [M.nxF_stop hl hc]
   simp only [M.inB,decide_eq_true_eq] at hc
   obtain ⟨c1,c2,c3,c4,c5⟩:=hc
   simp [hl,hl',h2,h2',c1,c2,c3]
   omega
  | false =>
   rw [M.nxF_step hl hc]
   simp only [M.inB,decide_eq_false_iff_not] at hc
   by_cases c1:tk k=sk i
   ·by_cases c2:tc k=sc i
    ·by_cases c3:tq k=sq i
     ·by_cases c4:sa i<ta k
      ·simp [hl,hl',h2,h2',h3,h4,c1,c2,c3,c4]
       omega
      ·have c5:tb k<sb i:=by
        refine Decidable.byContradiction fun c=>hc ⟨c1,c2,c3,by omega,by omega⟩
       simp [hl,hl',h2,h2',h3,h4,c1,c2,c3,c4,c5]
       omega
     ·simp [hl,hl',h2,h2',h3,h4,c1,c2,c3]
      omega
    ·simp [hl,hl',h2,h2',h3,h4,c1,c2]
     omega
   ·simp [hl,hl',h2,h2',h3,h4,c1]
    omega
 ·have e:k=m:=by omega
  subst e
  rw [M.nxF_end (Nat.le_refl _)]
  simp
theorem t23b (n m:Nat) (sk sc sq sa sb:Nat→Int) (tk tc tq ta tb:Nat→Int) (i k0:Nat) {F:Fence} (hF:FOK F) (Y:YEnv PP YS.none):∀ Q A H nx,loopT false Try.f23.ntmps 0 (lp23b n m sk sc sq sa sb tk tc tq ta tb i k0) (fun _ _ _=>k0) Q A H nx→WPS Y F Try.f23.ntmps 0 (.block 2 (blkAt 2 Try.f23)) Q A H nx :=
 loopW (E:=[]) (.nil) (O:=[]) (.nil) (ck:=true) (L:=[0,1,4,5,6,10,85,91]) (f:=Try.f23) (m:=0) (id:=2) (l:=(lp23b n m sk sc sq sa sb tk tc tq ta tb i k0)) (LI:=fun i=>[]) Y hF (by kernel_rfl) (fun _=>.nil) (by
  rintro k hp
  exact Hold.of (q23b n m sk sc sq sa sb tk tc tq ta tb i k0 k) (bq23b n m sk sc sq sa sb tk tc tq ta tb i k0 k ((peq23b n m sk sc sq sa sb tk tc tq ta tb i k0 k).mp hp)))
def lp23 (n m:Nat) (sk sc sq sa sb:Nat→Int) (tk tc tq ta tb:Nat→Int):LoopS where
 ι:=Nat × Nat
 β:=Bool
 pre s:=s.1≤n∧s.2≤m∧n≤100000∧m≤100000
 μ s:=n-s.1
 next s _ _ _:=(s.1+1,M.nxF (fun j=>M.inB (M.Sc.mk (sk s.1) (sc s.1) (sq s.1) (sa s.1) (sb s.1)) ((fun i=>M.Sc.mk (tk i) (tc i) (tq i) (ta i) (tb i)) j)) (m-s.2) s.2+1)
 out s:=M.inF (fun i=>M.Sc.mk (sk i) (sc i) (sq i) (sa i) (sb i)) (fun i=>M.Sc.mk (tk i) (tc i) (tq i) (ta i) (tb i)) m (n-s.1) s.1 s.2
 early q:=!q
 SA s:=[(0,.sl 5 n (fun j=>[SI (sk j),SI (sc j),SI (sq j),SI (sa j),SI (sb j)])),(1,.sl 5 m (fun j=>[SI (tk j),SI (tc j),SI (tq j),SI (ta j),SI (tb j)])),(4,.bool false),(5,SI s.2),(6,SI s.1)]
 SH _:=[]
 n0:=0
 NA _:=[]
 NH _:=[]
 n1:=0
 RA q:=[(4,.bool false)]
 RH _:=[]
def Rq23 (n m:Nat) (sk sc sq sa sb:Nat→Int) (tk tc tq ta tb:Nat→Int) (i k:Nat):Prop:=(fun (z5:Int) (z0 z4:Nat) (z1:Nat→Nat→Nat→Bool) (z2 z3 z6 z9:Prop)=>(fun (z7 z8:Bool)=>(decide (z5<(↑n:Int))=true→(k≤m∧i<n∧z6)∧(z2∧z3∧z9∧(↑k:Int)=(↑k:Int)∧z5=z5∧True)∧(z9→(z8=true→(!z7)=true∧z9∧True)∧(z8=false→R64 ((↑z0:Int)+(1:Int))∧R64 (z5+(1:Int))∧(z4≤n∧z0+(1:Nat)≤m∧z6)∧n-z4<n-i∧z1 (n-z4) z4 (z0+(1:Nat))=z7∧z2∧z3∧z9∧(↑z0:Int)+(1:Int)=(↑(z0+(1:Nat)):Int)∧z5+(1:Int)=(↑z4:Int)∧True))∧(false=true→(!z7)=true∧False∧True))∧(decide (z5<(↑n:Int))=false→(!z7)=false∧True)) (z1 (n-i) i k) (decide ((↑z0:Int)=(↑m:Int)))) (↑i:Int) (M.nxF (fun j=>M.inB (M.Sc.mk (sk i) (sc i) (sq i) (sa i) (sb i)) (M.Sc.mk (tk j) (tc j) (tq j) (ta j) (tb j))) (m-k) k) (i+(1:Nat)) (M.inF (fun i=>M.Sc.mk (sk i) (sc i) (sq i) (sa i) (sb i)) (fun i=>M.Sc.mk (tk i) (tc i) (tq i) (ta i) (tb i)) m) (n=n∧∀ (k:Nat),k<n→sk k=sk k∧sc k=sc k∧sq k=sq k∧sa k=sa k∧sb k=sb k) (m=m∧∀ (k:Nat),k<m→tk k=tk k∧tc k=tc k∧tq k=tq k∧ta k=ta k∧tb k=tb k) (n≤(100000:Nat)∧m≤(100000:Nat)) (false=false)
theorem q23 (n m:Nat) (sk sc sq sa sb:Nat→Int) (tk tc tq ta tb:Nat→Int) (i k:Nat):VL true [] [] YS.none Try.f23 0 [0,1,4,5,6,10,85,91] [(2,loopT false Try.f23.ntmps 0 (lp23b n m sk sc sq sa sb tk tc tq ta tb i k) (fun _ _ _=>k))] 0 (lp23 n m sk sc sq sa sb tk tc tq ta tb) ((i,k))=Rq23 n m sk sc sq sa sb tk tc tq ta tb i k:=by kernel_rfl
theorem peq23 (n m:Nat) (sk sc sq sa sb:Nat→Int) (tk tc tq ta tb:Nat→Int) (i k:Nat):(lp23 n m sk sc sq sa sb tk tc tq ta tb).pre ((i,k))=(i≤n∧k≤m∧n≤(100000:Nat)∧m≤(100000:Nat)):=by kernel_rfl
theorem bq23 (n m:Nat) (sk sc sq sa sb:Nat→Int) (tk tc tq ta tb:Nat→Int) (i k:Nat) (hp:i≤n∧k≤m∧n≤(100000:Nat)∧m≤(100000:Nat)):Rq23 n m sk sc sq sa sb tk tc tq ta tb i k:=by
 unfold Rq23
 dsimp -iota -proj -eta -zeta only
 obtain ⟨h1,h2,h3,h4⟩:=id hp
 have r1:R64 ((i:Int)+1):=by unfold R64; omega
 have hb:=M.nxF_le (c:=(fun j=>M.inB (M.Sc.mk (sk i) (sc i) (sq i) (sa i) (sb i)) ((fun i=>M.Sc.mk (tk i) (tc i) (tq i) (ta i) (tb i)) j))) (m:=m) (f:=m-k) (k:=k) rfl h2
 obtain ⟨y,hy⟩ : ∃ y,y=M.nxF (fun j=>M.inB (M.Sc.mk (sk i) (sc i) (sq i) (sa i) (sb i)) ((fun i=>M.Sc.mk (tk i) (tc i) (tq i) (ta i) (tb i)) j)) (m-k) k:=⟨_,rfl⟩
 have r2:R64 ((y:Int)+1):=by unfold R64; omega
 simp only [Int.toNat_natCast,← hy,r1,r2]
 rw [← hy] at hb
 by_cases hl:i<n
 ·have hl':(i:Int)<n:=by omega
  have e:=M.inF_step (s:=(fun i=>M.Sc.mk (sk i) (sc i) (sq i) (sa i) (sb i))) (t:=(fun i=>M.Sc.mk (tk i) (tc i) (tq i) (ta i) (tb i))) (m:=m) (k:=k) hl
  simp only [← hy] at e
  rw [e]
  by_cases hc:y=m
  ·have hc':(y:Int)=m:=by omega
   simp [hl,hl',hc,h2,h3,h4]
  ·have hc':¬ (y:Int)=m:=by omega
   simp [hl,hl',hc,hc',h2,h3,h4]
   omega
 ·have e:i=n:=by omega
  subst e
  rw [M.inF_end (Nat.le_refl _)]
  simp
theorem t23 (n m:Nat) (sk sc sq sa sb:Nat→Int) (tk tc tq ta tb:Nat→Int) {F:Fence} (hF:FOK F) (Y:YEnv PP YS.none):∀ Q A H nx,loopT false Try.f23.ntmps 0 (lp23 n m sk sc sq sa sb tk tc tq ta tb) (fun _ _ _=>((0:Nat),(0:Nat))) Q A H nx→WPS Y F Try.f23.ntmps 0 (.block 0 (blkAt 0 Try.f23)) Q A H nx :=
 loopW (E:=[]) (.nil) (O:=[]) (.nil) (ck:=true) (L:=[0,1,4,5,6,10,85,91]) (f:=Try.f23) (m:=0) (id:=0) (l:=(lp23 n m sk sc sq sa sb tk tc tq ta tb)) (LI:=fun | (i,k)=>[(2,loopT false Try.f23.ntmps 0 (lp23b n m sk sc sq sa sb tk tc tq ta tb i k) (fun _ _ _=>k))]) Y hF (by kernel_rfl) (fun | (i,k)=>.cons (by kernel_rfl) (t23b n m sk sc sq sa sb tk tc tq ta tb i k hF Y) (.nil)) (by
  rintro ⟨i,k⟩ hp
  exact Hold.of (q23 n m sk sc sq sa sb tk tc tq ta tb i k) (bq23 n m sk sc sq sa sb tk tc tq ta tb i k ((peq23 n m sk sc sq sa sb tk tc tq ta tb i k).mp hp)))
def e23:List SV→Option (List Prop × SV)
 | [.sl 5 n g_1,.sl 5 m g_2]=>some ([Row 5 n g_1,Row 5 m g_2,n≤100000,m≤100000],.bool (M.ins n m (fun i=>M.Sc.mk ((cI g_1 0) i) ((cI g_1 1) i) ((cI g_1 2) i) ((cI g_1 3) i) ((cI g_1 4) i)) (fun i=>M.Sc.mk ((cI g_2 0) i) ((cI g_2 1) i) ((cI g_2 2) i) ((cI g_2 3) i) ((cI g_2 4) i))))
 | _=>none
def Rr23 (n m:Nat) (sk sc sq sa sb:Nat→Int) (tk tc tq ta tb:Nat→Int):Prop:=(fun (z2:Nat) (z0 z1:Nat→M.Sc)=>(fun (z3:Bool)=>(z2≤n∧z2≤m∧n≤(100000:Nat)∧m≤(100000:Nat))∧((n=n∧∀ (k:Nat),k<n→sk k=sk k∧sc k=sc k∧sq k=sq k∧sa k=sa k∧sb k=sb k)∧(m=m∧∀ (k:Nat),k<m→tk k=tk k∧tc k=tc k∧tq k=tq k∧ta k=ta k∧tb k=tb k)∧false=false∧(0:Int)=(↑z2:Int)∧(0:Int)=(↑z2:Int)∧True)∧(z3=false→true=M.ins n m z0 z1)∧(z3=true→false=M.ins n m z0 z1)) (!M.inF z0 z1 m (n-z2) z2 z2)) (0:Nat) (fun i=>M.Sc.mk (sk i) (sc i) (sq i) (sa i) (sb i)) (fun i=>M.Sc.mk (tk i) (tc i) (tq i) (ta i) (tb i))
theorem r23 (n m:Nat) (sk sc sq sa sb:Nat→Int) (tk tc tq ta tb:Nat→Int):V true [] [] Try.f23 [0,1,4,5,6,10,85,91] [(0,loopT false Try.f23.ntmps 0 (lp23 n m sk sc sq sa sb tk tc tq ta tb) (fun _ _ _=>((0:Nat),(0:Nat))))] [.sl 5 n (fun k=>[SI (sk k),SI (sc k),SI (sq k),SI (sa k),SI (sb k)]),.sl 5 m (fun k=>[SI (tk k),SI (tc k),SI (tq k),SI (ta k),SI (tb k)])] (.bool (M.ins n m (fun i=>M.Sc.mk (sk i) (sc i) (sq i) (sa i) (sb i)) (fun i=>M.Sc.mk (tk i) (tc i) (tq i) (ta i) (tb i))))=Rr23 n m sk sc sq sa sb tk tc tq ta tb:=by kernel_rfl
theorem br23 (n m:Nat) (sk sc sq sa sb:Nat→Int) (tk tc tq ta tb:Nat→Int) (hp:(n≤100000)∧(m≤100000)∧AllP []):Rr23 n m sk sc sq sa sb tk tc tq ta tb:=by
 unfold Rr23
 dsimp -iota -proj -eta -zeta only
 obtain ⟨h1,h2,-⟩:=id hp
 unfold M.ins
 cases hq:M.inF (fun i=>M.Sc.mk (sk i) (sc i) (sq i) (sa i) (sb i)) (fun i=>M.Sc.mk (tk i) (tc i) (tq i) (ta i) (tb i)) m (n-0) 0 0 with
 | false=>simp [h1,h2,hq]
 | true=>simp [h1,h2,hq]
theorem s23:PureOK PP 23 e23:=by
 intro xs ps res h hp
 unfold e23 at h
 split at h
 ·rename_i n g_1 m g_2
  cases h
  simp only [AllP.cons] at hp
  obtain ⟨Hg_1,Hg_2,hp⟩:=hp
  exact Spec.args (enterH (Hold.of (r23 n m (cI g_1 0) (cI g_1 1) (cI g_1 2) (cI g_1 3) (cI g_1 4) (cI g_2 0) (cI g_2 1) (cI g_2 2) (cI g_2 3) (cI g_2 4)) (br23 n m (cI g_1 0) (cI g_1 1) (cI g_1 2) (cI g_1 3) (cI g_1 4) (cI g_2 0) (cI g_2 1) (cI g_2 2) (cI g_2 3) (cI g_2 4) hp)) (.nil) (.nil) (k:=23) (by kernel_rfl) (by kernel_rfl) (fun Y=>.cons (by kernel_rfl) (t23 n m (cI g_1 0) (cI g_1 1) (cI g_1 2) (cI g_1 3) (cI g_1 4) (cI g_2 0) (cI g_2 1) (cI g_2 2) (cI g_2 3) (cI g_2 4) FOK.wide Y) (.nil))) (.cons (.row Hg_1 fun _=>rfl) (.cons (.row Hg_2 fun _=>rfl) .nil))
 ·cases h
def e23t:List SV→Option (List Prop × SV)
 | [.sl 5 n g_1,.sl 5 m g_2]=>some ([Row 5 n g_1,Row 5 m g_2,n≤100000,m≤100000,M.ins n m (fun i=>M.Sc.mk (cI g_1 0 i) (cI g_1 1 i) (cI g_1 2 i) (cI g_1 3 i) (cI g_1 4 i)) (fun i=>M.Sc.mk (cI g_2 0 i) (cI g_2 1 i) (cI g_2 2 i) (cI g_2 3 i) (cI g_2 4 i))=true],.bool true)
 | _=>none
theorem s23t:PureOK PP 23 e23t:=by
 intro xs ps res h hp
 unfold e23t at h
 split at h
 ·rename_i n g_1 m g_2
  cases h
  simp only [AllP.cons] at hp
  obtain ⟨h1,h2,h3,h4,h5,-⟩:=hp
  have h6:=s23 [.sl 5 n g_1,.sl 5 m g_2] _ _ rfl (AllP.cons.2 ⟨h1,AllP.cons.2 ⟨h2,AllP.cons.2 ⟨h3,AllP.cons.2 ⟨h4,AllP.nil⟩⟩⟩⟩)
  rw [h5] at h6
  exact h6
 ·cases h
end Go.Proofs.Ytoncoofmijjgeaa.Sep
namespace Go.Proofs.Ytoncoofmijjgeaa.M
open Go
set_option linter.unusedVariables false
set_option linter.unusedSimpArgs false
theorem Lf.mono {a b : Int} {c c' : Int → Int} {u v : Int} {r r' : Bool × Int × Int} (h : Lf a b c u r) (h' : Lf a b c' v r') (hc : ∀ t, a ≤ t → t ≤ b → u ≤ c t → v ≤ c' t) (hr : r.1 = true) : r'.1 = true ∧ r'.2.1 ≤ r.2.1 ∧ r.2.2 ≤ r'.2.2 := by
 obtain ⟨a1, a2, a3, a4, a5⟩ := h.1 hr
 obtain ⟨b1, b2, b3⟩ := h'.2.2 _ a1 (by omega) (hc _ a1 (by omega) a4)
 obtain ⟨c1, c2, c3⟩ := h'.2.2 _ (by omega) a3 (hc _ (by omega) a3 a5)
 exact ⟨b1, b2, c3⟩
namespace Gd
variable {g g' : Gd} {x : Nat → Int} {s : Sc} {f f' : Int} {m m' ns : Nat} {P P' : Nat → Pk}
def Va (g : Gd) (ns : Nat) (x : Nat → Int) (m : Nat) (P : Nat → Pk) : Prop := g.ok ∧ g.all ns x ∧ ∀ i, i < m → (P i).Vd ns
theorem Va.lf (h : g.Va ns x m P) (hs : g.Sok s) : Lf s.a s.b (g.cnt x s m P) ((m : Int) - f) (g.lft x s m P f) :=
 lft_lf h.1 h.2.1 hs.2.1 h.2.2 hs.2.2.2.2.1 (by have := hs.2.2.2.1; omega) (by have := hs.2.2.2.2.2; omega)
theorem Ck.va {n : Nat} {S : Nat → Sc} (h : g.Ck ns x n S m P f) : g.Va ns x m P := ⟨h.1, h.2.2.1, h.2.2.2.2.2.1⟩
theorem one_wide (h : g.Va ns x m P) (h' : g'.Va ns x m' P') (hs : g.Sok s) (hs' : g'.Sok s) (hc : ∀ t, s.a ≤ t → t ≤ s.b → (m : Int) - f ≤ g.cnt x s m P t → (m' : Int) - f' ≤ g'.cnt x s m' P' t) {z : Sc} (hz : g.one x m P f s = some z) : ∃ y, g'.one x m' P' f' s = some y ∧ inB z y = true := by
 unfold one at hz
 split at hz
 ·rename_i h1
  split at hz
  ·rename_i h2
   obtain ⟨b1, b2, b3⟩ := (h.lf hs (f := f)).mono (h'.lf hs' (f := f')) hc h2
   cases hz
   unfold one
   rw [if_pos h1, if_pos b1]
   refine ⟨_, rfl, ?_⟩
   unfold inB
   simp only [decide_eq_true_eq, true_and]
   exact ⟨b2, b3⟩
  ·cases hz
 ·rename_i h1
  cases hz
  refine ⟨s, ?_, inB_refl _⟩
  unfold one
  rw [if_neg h1]
theorem leL_fm {S : Nat → Sc} : ∀ n, g.leL x S m P f n = fmL (fun i => g.one x m P f (S i)) n
 | 0 => rfl
 | n + 1 => by unfold leL fmL; rw [leL_fm n]; cases g.one x m P f (S n) <;> rfl
theorem leN_fm {S : Nat → Sc} {n : Nat} : g.leN x S m P f n = fmN (fun i => g.one x m P f (S i)) n := by unfold leN fmN; rw [leL_fm]
theorem leR_fm {S : Nat → Sc} {n : Nat} : g.leR x S m P f n = fmR (fun i => g.one x m P f (S i)) n := by unfold leR fmR; rw [leL_fm]
theorem le_wide {S : Nat → Sc} {n : Nat} (h : g.Va ns x m P) (h' : g'.Va ns x m' P') (hs : ∀ i, i < n → g.Sok (S i) ∧ g'.Sok (S i)) (hc : ∀ i, i < n → ∀ t, (S i).a ≤ t → t ≤ (S i).b → (m : Int) - f ≤ g.cnt x (S i) m P t → (m' : Int) - f' ≤ g'.cnt x (S i) m' P' t) :
  ins (g.leN x S m P f n) (g'.leN x S m' P' f' n) (g.leR x S m P f n) (g'.leR x S m' P' f' n) = true := by
 rw [leN_fm, leR_fm, leN_fm, leR_fm]
 exact fm_ins fun i hi z hz => one_wide h h' (hs i hi).1 (hs i hi).2 (hc i hi) hz
end Gd
namespace Gd
variable {g g' : Gd} {x : Nat → Int} {s : Sc} {f f' : Int} {m m' ns : Nat} {P P' : Nat → Pk}
theorem cnt_le (ha : ∀ i, i < m → ∀ t, g.alw x s (P i) t = true → g'.alw x s (P i) t = true) {t : Int} : g.cnt x s m P t ≤ g'.cnt x s m P t := by
 unfold cnt
 refine sumN_le fun k hk => ?_
 by_cases c : g.alw x s (P k) t = true
 ·rw [if_pos c, if_pos (ha k hk t c)]; omega
 ·rw [if_neg c]; split <;> omega
def Wd (g g' : Gd) : Prop := g'.w = g.w ∧ g'.h = g.h ∧ g'.s = g.s ∧ g'.v0 ≤ g.v0 ∧ g.v1 ≤ g'.v1 ∧ g'.d0 ≤ g.d0 ∧ g.d1 ≤ g'.d1 ∧ g.r ≤ g'.r
theorem Wd.bounds (hw : g.Wd g') (hk : g.ok) (hk' : g'.ok) {a b : Int} (ha : g.cell a) (hb : g.cell b) : g'.T0 a b ≤ g.T0 a b ∧ g.T1 a b ≤ g'.T1 a b ∧ ∀ q, g'.S0 q a b ≤ g.S0 q a b ∧ g.S1 q a b ≤ g'.S1 q a b := by
 obtain ⟨w1, w2, w3, w4, w5, w6, w7, w8⟩ := hw
 have ha' : g'.cell a := by unfold cell at *; rw [w1, w2]; exact ha
 have hb' : g'.cell b := by unfold cell at *; rw [w1, w2]; exact hb
 obtain ⟨-, -, -, -, n1, n2, n3, n4⟩ := near_far hk ha hb
 obtain ⟨-, -, -, -, m1, m2, m3, m4⟩ := near_far hk' ha' hb'
 have ex : g'.dx a b = g.dx a b := by unfold dx; rw [w1]
 have ey : g'.dy a b = g.dy a b := by unfold dy; rw [w1]
 obtain ⟨k1, k2, k3, ⟨k4, k5, k6⟩, ⟨k7, k8, k9⟩, k10⟩ := hk
 obtain ⟨l1, l2, l3, ⟨l4, l5, l6⟩, ⟨l7, l8, l9⟩, l10⟩ := hk'
 have hn : g'.near a b ≤ g.near a b := by
  unfold near
  rw [ex, ey, w3]
  have := (sq_bd l7 w6).2
  omega
 have hf : g.far a b ≤ g'.far a b := by
  unfold far
  rw [ex, ey, w3]
  have := (sq_bd (x := g.d1) (y := g'.d1) (by omega) w7).2
  omega
 have d0 : g'.D0 a b ≤ g.D0 a b := by
  unfold D0
  have := root_mono (n := g'.near a b + 1) (m := g.near a b + 1) (by omega) (by omega)
  omega
 have d1 : g.D1 a b ≤ g'.D1 a b := by
  unfold D1
  have := root_mono (n := g.far a b) (m := g'.far a b) hf (by omega)
  omega
 have hk : g.ok := ⟨k1, k2, k3, ⟨k4, k5, k6⟩, ⟨k7, k8, k9⟩, k10⟩
 have hk' : g'.ok := ⟨l1, l2, l3, ⟨l4, l5, l6⟩, ⟨l7, l8, l9⟩, l10⟩
 obtain ⟨e1, e2, e3, e4⟩ := D_bd hk ha hb
 obtain ⟨f1, f2, f3, f4⟩ := D_bd hk' ha' hb'
 refine ⟨?_, ?_, fun q => ?_⟩
 ·unfold T0
  have h1 : 1000 * g'.D0 a b / g'.v1 ≤ 1000 * g'.D0 a b / g.v1 := by
   rw [Int.le_ediv_iff_mul_le (by omega)]
   have h3 : 1000 * g'.D0 a b / g'.v1 * g.v1 ≤ 1000 * g'.D0 a b / g'.v1 * g'.v1 := Int.mul_le_mul_of_nonneg_left w5 (Int.ediv_nonneg (by omega) (by omega))
   have h4 := Int.ediv_mul_le (1000 * g'.D0 a b) (show g'.v1 ≠ 0 by omega)
   omega
  have h2 : 1000 * g'.D0 a b / g.v1 ≤ 1000 * g.D0 a b / g.v1 := Int.ediv_le_ediv (by omega) (by omega)
  omega
 ·unfold T1
  have h1 : (1000 * g.D1 a b - 1) / g.v0 ≤ (1000 * g.D1 a b - 1) / g'.v0 := by
   rw [Int.le_ediv_iff_mul_le (by omega)]
   have h3 : (1000 * g.D1 a b - 1) / g.v0 * g'.v0 ≤ (1000 * g.D1 a b - 1) / g.v0 * g.v0 := Int.mul_le_mul_of_nonneg_left w4 (Int.ediv_nonneg (by omega) (by omega))
   have h4 := Int.ediv_mul_le (1000 * g.D1 a b - 1) (show g.v0 ≠ 0 by omega)
   omega
  have h2 : (1000 * g.D1 a b - 1) / g'.v0 ≤ (1000 * g'.D1 a b - 1) / g'.v0 := Int.ediv_le_ediv (by omega) (by omega)
  omega
 ·unfold S0 S1
  have h1 := fall_mono (d := g.D1 a b) (e := g'.D1 a b) (by omega) d1
  have h2 := fall_mono (d := g'.D0 a b) (e := g.D0 a b) f1 d0
  omega
theorem Wd.alw (hw : g.Wd g') (hk : g.ok) (hk' : g'.ok) {p : Pk} (hs : g.cell s.c) (hx : g.cell (x p.s.toNat)) {t : Int} (h : g.alw x s p t = true) : g'.alw x s p t = true := by
 obtain ⟨a1, a2, a3⟩ := hw.bounds hk hk' hs hx
 obtain ⟨a4, a5⟩ := a3 s.q
 unfold Gd.alw at h ⊢
 split at h
 ·rename_i c
  rw [if_pos c]
  simp only [decide_eq_true_eq] at h ⊢
  omega
 ·rename_i c
  rw [if_neg c]
  split at h
  ·rename_i c2
   rw [if_pos c2]
   simp only [decide_eq_true_eq] at h ⊢
   omega
  ·rename_i c2
   rw [if_neg c2]
   simp only [decide_eq_true_eq] at h ⊢
   omega
theorem dx_sym {a b : Int} : g.dx a b = g.dx b a := by unfold dx; omega
theorem dy_sym {a b : Int} : g.dy a b = g.dy b a := by unfold dy; omega
theorem T_sym {a b : Int} : g.T0 a b = g.T0 b a ∧ g.T1 a b = g.T1 b a := by
 unfold T0 T1 D0 D1 near far
 rw [dx_sym (a := a), dy_sym (a := a)]
 exact ⟨rfl, rfl⟩
end Gd
end Go.Proofs.Ytoncoofmijjgeaa.M
namespace Go.Proofs.Ytoncoofmijjgeaa.M
namespace Gd
def lN (g:Gd) (ns:Nat) (x:Nat→Int) (n:Nat) (S:Nat→Sc) (m:Nat) (P:Nat→Pk) (f:Int):Nat:=if g.ckE ns x n S m P f=0 then g.leN x S m P f n else 0
def rnB (g:Gd) (ns:Nat) (x:Nat→Int) (n:Nat) (S:Nat→Sc) (m:Nat) (P:Nat→Pk) (f:Int):Bool:=decide ((ns≤70∧n≤300∧m≤70∧n*m≤3000)∧g.ckE ns x n S m P f=0)
def rnN (g:Gd) (ns:Nat) (x:Nat→Int) (n:Nat) (S:Nat→Sc) (m:Nat) (P:Nat→Pk) (f:Int):Nat:=if g.rnB ns x n S m P f=true then g.leN x S m P f n else 0
end Gd
theorem rnB_ok {g:Gd} {ns:Nat} {x:Nat→Int} {n:Nat} {S:Nat→Sc} {m:Nat} {P:Nat→Pk} {f:Int} : g.rnB ns x n S m P f=true↔(ns≤70∧n≤300∧m≤70∧n*m≤3000)∧g.Ck ns x n S m P f:=by
 unfold Gd.rnB
 rw [decide_eq_true_iff,Gd.ckE_ok]
end Go.Proofs.Ytoncoofmijjgeaa.M
namespace Go.Proofs.Ytoncoofmijjgeaa.Sep
open Go
set_option linter.unusedVariables false
set_option linter.unusedSimpArgs false
def e18s:List SV→Option (List Prop × SV)
 | [.agg [.int .i64 g_w,.int .i64 g_h,.int .i64 g_s,.int .i64 g_v0,.int .i64 g_v1,.int .i64 g_d0,.int .i64 g_d1,.int .i64 g_r],.sl 1 ns g_1,.sl 5 n g_2,.sl 6 m g_3,.int .i64 f]=>some ([Row 1 ns g_1,Row 5 n g_2,Row 6 m g_3,ns≤100000,n≤100000,m≤100000],.tup [.sl 5 (M.Gd.lN (M.Gd.mk g_w g_h g_s g_v0 g_v1 g_d0 g_d1 g_r) ns (cI g_1 0) n (fun i=>M.Sc.mk (cI g_2 0 i) (cI g_2 1 i) (cI g_2 2 i) (cI g_2 3 i) (cI g_2 4 i)) m (fun i=>M.Pk.mk (cI g_3 0 i) (cI g_3 1 i) (cI g_3 2 i) (cI g_3 3 i) (cI g_3 4 i) (cI g_3 5 i)) f) (fun k=>[SI (M.Gd.leR (M.Gd.mk g_w g_h g_s g_v0 g_v1 g_d0 g_d1 g_r) (cI g_1 0) (fun i=>M.Sc.mk (cI g_2 0 i) (cI g_2 1 i) (cI g_2 2 i) (cI g_2 3 i) (cI g_2 4 i)) m (fun i=>M.Pk.mk (cI g_3 0 i) (cI g_3 1 i) (cI g_3 2 i) (cI g_3 3 i) (cI g_3 4 i) (cI g_3 5 i)) f n k).k,SI (M.Gd.leR (M.Gd.mk g_w g_h g_s g_v0 g_v1 g_d0 g_d1 g_r) (cI g_1 0) (fun i=>M.Sc.mk (cI g_2 0 i) (cI g_2 1 i) (cI g_2 2 i) (cI g_2 3 i) (cI g_2 4 i)) m (fun i=>M.Pk.mk (cI g_3 0 i) (cI g_3 1 i) (cI g_3 2 i) (cI g_3 3 i) (cI g_3 4 i) (cI g_3 5 i)) f n k).c,SI (M.Gd.leR (M.Gd.mk g_w g_h g_s g_v0 g_v1 g_d0 g_d1 g_r) (cI g_1 0) (fun i=>M.Sc.mk (cI g_2 0 i) (cI g_2 1 i) (cI g_2 2 i) (cI g_2 3 i) (cI g_2 4 i)) m (fun i=>M.Pk.mk (cI g_3 0 i) (cI g_3 1 i) (cI g_3 2 i) (cI g_3 3 i) (cI g_3 4 i) (cI g_3 5 i)) f n k).q,SI (M.Gd.leR (M.Gd.mk g_w g_h g_s g_v0 g_v1 g_d0 g_d1 g_r) (cI g_1 0) (fun i=>M.Sc.mk (cI g_2 0 i) (cI g_2 1 i) (cI g_2 2 i) (cI g_2 3 i) (cI g_2 4 i)) m (fun i=>M.Pk.mk (cI g_3 0 i) (cI g_3 1 i) (cI g_3 2 i) (cI g_3 3 i) (cI g_3 4 i) (cI g_3 5 i)) f n k).a,SI (M.Gd.leR (M.Gd.mk g_w g_h g_s g_v0 g_v1 g_d0 g_d1 g_r) (cI g_1 0) (fun i=>M.Sc.mk (cI g_2 0 i) (cI g_2 1 i) (cI g_2 2 i) (cI g_2 3 i) (cI g_2 4 i)) m (fun i=>M.Pk.mk (cI g_3 0 i) (cI g_3 1 i) (cI g_3 2 i) (cI g_3 3 i) (cI g_3 4 i) (cI g_3 5 i)) f n k).b]),SI (M.Gd.ckE (M.Gd.mk g_w g_h g_s g_v0 g_v1 g_d0 g_d1 g_r) ns (cI g_1 0) n (fun i=>M.Sc.mk (cI g_2 0 i) (cI g_2 1 i) (cI g_2 2 i) (cI g_2 3 i) (cI g_2 4 i)) m (fun i=>M.Pk.mk (cI g_3 0 i) (cI g_3 1 i) (cI g_3 2 i) (cI g_3 3 i) (cI g_3 4 i) (cI g_3 5 i)) f)])
 | _=>none
theorem s18s:PureOK PP 18 e18s:=by
 intro xs ps res h hp
 unfold e18s at h
 split at h
 ·rename_i g_w g_h g_s g_v0 g_v1 g_d0 g_d1 g_r ns g_1 n g_2 m g_3 f
  cases h
  simp only [AllP.cons] at hp
  obtain ⟨Hg_1,Hg_2,Hg_3,hp⟩:=hp
  have h6:=s18 [.agg [.int .i64 g_w,.int .i64 g_h,.int .i64 g_s,.int .i64 g_v0,.int .i64 g_v1,.int .i64 g_d0,.int .i64 g_d1,.int .i64 g_r],.sl 1 ns g_1,.sl 5 n g_2,.sl 6 m g_3,.int .i64 f] _ _ rfl (AllP.cons.2 ⟨Hg_1,(AllP.cons.2 ⟨Hg_2,(AllP.cons.2 ⟨Hg_3,(AllP.cons.2 ⟨(hp.1),(AllP.cons.2 ⟨(hp.2.1),(AllP.cons.2 ⟨(hp.2.2.1),AllP.nil⟩)⟩)⟩)⟩)⟩)⟩)
  exact h6
 ·cases h
def e22:List SV→Option (List Prop × SV)
 | [.agg [.int .i64 g_w,.int .i64 g_h,.int .i64 g_s,.int .i64 g_v0,.int .i64 g_v1,.int .i64 g_d0,.int .i64 g_d1,.int .i64 g_r,.sl 1 ns g_1,.sl 5 n g_2,.sl 6 m g_3,.int .i64 f]]=>some ([Row 1 ns g_1,Row 5 n g_2,Row 6 m g_3],.tup [.sl 5 (M.Gd.rnN (M.Gd.mk g_w g_h g_s g_v0 g_v1 g_d0 g_d1 g_r) ns (cI g_1 0) n (fun i=>M.Sc.mk (cI g_2 0 i) (cI g_2 1 i) (cI g_2 2 i) (cI g_2 3 i) (cI g_2 4 i)) m (fun i=>M.Pk.mk (cI g_3 0 i) (cI g_3 1 i) (cI g_3 2 i) (cI g_3 3 i) (cI g_3 4 i) (cI g_3 5 i)) f) (fun k=>[SI (M.Gd.leR (M.Gd.mk g_w g_h g_s g_v0 g_v1 g_d0 g_d1 g_r) (cI g_1 0) (fun i=>M.Sc.mk (cI g_2 0 i) (cI g_2 1 i) (cI g_2 2 i) (cI g_2 3 i) (cI g_2 4 i)) m (fun i=>M.Pk.mk (cI g_3 0 i) (cI g_3 1 i) (cI g_3 2 i) (cI g_3 3 i) (cI g_3 4 i) (cI g_3 5 i)) f n k).k,SI (M.Gd.leR (M.Gd.mk g_w g_h g_s g_v0 g_v1 g_d0 g_d1 g_r) (cI g_1 0) (fun i=>M.Sc.mk (cI g_2 0 i) (cI g_2 1 i) (cI g_2 2 i) (cI g_2 3 i) (cI g_2 4 i)) m (fun i=>M.Pk.mk (cI g_3 0 i) (cI g_3 1 i) (cI g_3 2 i) (cI g_3 3 i) (cI g_3 4 i) (cI g_3 5 i)) f n k).c,SI (M.Gd.leR (M.Gd.mk g_w g_h g_s g_v0 g_v1 g_d0 g_d1 g_r) (cI g_1 0) (fun i=>M.Sc.mk (cI g_2 0 i) (cI g_2 1 i) (cI g_2 2 i) (cI g_2 3 i) (cI g_2 4 i)) m (fun i=>M.Pk.mk (cI g_3 0 i) (cI g_3 1 i) (cI g_3 2 i) (cI g_3 3 i) (cI g_3 4 i) (cI g_3 5 i)) f n k).q,SI (M.Gd.leR (M.Gd.mk g_w g_h g_s g_v0 g_v1 g_d0 g_d1 g_r) (cI g_1 0) (fun i=>M.Sc.mk (cI g_2 0 i) (cI g_2 1 i) (cI g_2 2 i) (cI g_2 3 i) (cI g_2 4 i)) m (fun i=>M.Pk.mk (cI g_3 0 i) (cI g_3 1 i) (cI g_3 2 i) (cI g_3 3 i) (cI g_3 4 i) (cI g_3 5 i)) f n k).a,SI (M.Gd.leR (M.Gd.mk g_w g_h g_s g_v0 g_v1 g_d0 g_d1 g_r) (cI g_1 0) (fun i=>M.Sc.mk (cI g_2 0 i) (cI g_2 1 i) (cI g_2 2 i) (cI g_2 3 i) (cI g_2 4 i)) m (fun i=>M.Pk.mk (cI g_3 0 i) (cI g_3 1 i) (cI g_3 2 i) (cI g_3 3 i) (cI g_3 4 i) (cI g_3 5 i)) f n k).b]),.bool (M.Gd.rnB (M.Gd.mk g_w g_h g_s g_v0 g_v1 g_d0 g_d1 g_r) ns (cI g_1 0) n (fun i=>M.Sc.mk (cI g_2 0 i) (cI g_2 1 i) (cI g_2 2 i) (cI g_2 3 i) (cI g_2 4 i)) m (fun i=>M.Pk.mk (cI g_3 0 i) (cI g_3 1 i) (cI g_3 2 i) (cI g_3 3 i) (cI g_3 4 i) (cI g_3 5 i)) f)])
 | _=>none
def Rr22 (g:M.Gd) (ns:Nat) (x:Nat→Int) (n:Nat) (S:Nat→M.Sc) (m:Nat) (P:Nat→M.Pk) (f:Int):Prop:=(fun (z3:Bool) (z0:Nat→M.Sc) (z1 z2 z4:Prop)=>z4∧z2∧z1∧(z3=true→M.Gd.rnN g ns x n S m P f=(0:Nat)∧false=M.Gd.rnB g ns x n S m P f)∧(z3=false→z4∧z2∧z1∧ns≤(100000:Nat)∧n≤(100000:Nat)∧m≤(100000:Nat)∧(M.Gd.lN g ns x n S m P f=M.Gd.rnN g ns x n S m P f∧∀ (k:Nat),k<M.Gd.lN g ns x n S m P f→(z0 k).k=(z0 k).k∧(z0 k).c=(z0 k).c∧(z0 k).q=(z0 k).q∧(z0 k).a=(z0 k).a∧(z0 k).b=(z0 k).b)∧decide (M.Gd.ckE g ns x n S m P f=(0:Int))=M.Gd.rnB g ns x n S m P f)) (!decide (ns≤(70:Nat)∧n≤(300:Nat)∧m≤(70:Nat)∧n*m≤(3000:Nat))) (M.Gd.leR g x S m P f n) (∀ (k:Nat),k<m→(P k).k=(P k).k∧(P k).s=(P k).s∧(P k).t0=(P k).t0∧(P k).t1=(P k).t1∧(P k).l0=(P k).l0∧(P k).l1=(P k).l1) (∀ (k:Nat),k<n→(S k).k=(S k).k∧(S k).c=(S k).c∧(S k).q=(S k).q∧(S k).a=(S k).a∧(S k).b=(S k).b) (∀ (k:Nat),k<ns→x k=x k)
theorem r22 (g:M.Gd) (ns:Nat) (x:Nat→Int) (n:Nat) (S:Nat→M.Sc) (m:Nat) (P:Nat→M.Pk) (f:Int):V true [] [(16,pureE e16),(18,pureE e18s)] Try.f22 [0,1,2,3,4,5,13] [] [.agg [SI (M.Gd.w g),SI (M.Gd.h g),SI (M.Gd.s g),SI (M.Gd.v0 g),SI (M.Gd.v1 g),SI (M.Gd.d0 g),SI (M.Gd.d1 g),SI (M.Gd.r g),.sl 1 ns (fun k=>[SI (x k)]),.sl 5 n (fun k=>[SI (M.Sc.k (S k)),SI (M.Sc.c (S k)),SI (M.Sc.q (S k)),SI (M.Sc.a (S k)),SI (M.Sc.b (S k))]),.sl 6 m (fun k=>[SI (M.Pk.k (P k)),SI (M.Pk.s (P k)),SI (M.Pk.t0 (P k)),SI (M.Pk.t1 (P k)),SI (M.Pk.l0 (P k)),SI (M.Pk.l1 (P k))]),SI f]] (.tup [.sl 5 (M.Gd.rnN g ns x n S m P f) (fun k=>[SI (M.Gd.leR g x S m P f n k).k,SI (M.Gd.leR g x S m P f n k).c,SI (M.Gd.leR g x S m P f n k).q,SI (M.Gd.leR g x S m P f n k).a,SI (M.Gd.leR g x S m P f n k).b]),.bool (M.Gd.rnB g ns x n S m P f)])=Rr22 g ns x n S m P f:=by kernel_rfl
theorem br22 (g:M.Gd) (ns:Nat) (x:Nat→Int) (n:Nat) (S:Nat→M.Sc) (m:Nat) (P:Nat→M.Pk) (f:Int)  : Rr22 g ns x n S m P f:=by
 unfold Rr22
 dsimp -iota -proj -eta -zeta only
 unfold M.Gd.rnN M.Gd.rnB M.Gd.lN
 by_cases h:ns≤70∧n≤300∧m≤70∧n*m≤3000
 ·by_cases e:M.Gd.ckE g ns x n S m P f=0
  ·simp [h,e]
   omega
  ·simp [h,e]
   omega
 ·simp [h]
theorem s22:PureOK PP 22 e22:=by
 intro xs ps res h hp
 unfold e22 at h
 split at h
 ·rename_i g_w g_h g_s g_v0 g_v1 g_d0 g_d1 g_r ns g_1 n g_2 m g_3 f
  cases h
  simp only [AllP.cons] at hp
  obtain ⟨Hg_1,Hg_2,Hg_3,hp⟩:=hp
  exact Spec.args (enterH (Hold.of (r22 (M.Gd.mk g_w g_h g_s g_v0 g_v1 g_d0 g_d1 g_r) ns (cI g_1 0) n (fun i=>M.Sc.mk (cI g_2 0 i) (cI g_2 1 i) (cI g_2 2 i) (cI g_2 3 i) (cI g_2 4 i)) m (fun i=>M.Pk.mk (cI g_3 0 i) (cI g_3 1 i) (cI g_3 2 i) (cI g_3 3 i) (cI g_3 4 i) (cI g_3 5 i)) f) (br22 (M.Gd.mk g_w g_h g_s g_v0 g_v1 g_d0 g_d1 g_r) ns (cI g_1 0) n (fun i=>M.Sc.mk (cI g_2 0 i) (cI g_2 1 i) (cI g_2 2 i) (cI g_2 3 i) (cI g_2 4 i)) m (fun i=>M.Pk.mk (cI g_3 0 i) (cI g_3 1 i) (cI g_3 2 i) (cI g_3 3 i) (cI g_3 4 i) (cI g_3 5 i)) f )) (.nil) (.cons (pureE_ok s16) (.cons (pureE_ok s18s) (.nil))) (k:=22) (by kernel_rfl) (by kernel_rfl) (fun _=>.nil)) (.cons (.agg (.cons (.refl _) (.cons (.refl _) (.cons (.refl _) (.cons (.refl _) (.cons (.refl _) (.cons (.refl _) (.cons (.refl _) (.cons (.refl _) (.cons (.row Hg_1 fun _=>rfl) (.cons (.row Hg_2 fun _=>rfl) (.cons (.row Hg_3 fun _=>rfl) (.cons (.refl _) .nil))))))))))))) .nil)
 ·cases h
def e22t:List SV→Option (List Prop × SV)
 | [.agg [.int .i64 g_w,.int .i64 g_h,.int .i64 g_s,.int .i64 g_v0,.int .i64 g_v1,.int .i64 g_d0,.int .i64 g_d1,.int .i64 g_r,.sl 1 ns g_1,.sl 5 n g_2,.sl 6 m g_3,.int .i64 f]]=>some ([Row 1 ns g_1,Row 5 n g_2,Row 6 m g_3,M.Gd.rnB (M.Gd.mk g_w g_h g_s g_v0 g_v1 g_d0 g_d1 g_r) ns (cI g_1 0) n (fun i=>M.Sc.mk (cI g_2 0 i) (cI g_2 1 i) (cI g_2 2 i) (cI g_2 3 i) (cI g_2 4 i)) m (fun i=>M.Pk.mk (cI g_3 0 i) (cI g_3 1 i) (cI g_3 2 i) (cI g_3 3 i) (cI g_3 4 i) (cI g_3 5 i)) f=true],.tup [.sl 5 (M.Gd.leN (M.Gd.mk g_w g_h g_s g_v0 g_v1 g_d0 g_d1 g_r) (cI g_1 0) (fun i=>M.Sc.mk (cI g_2 0 i) (cI g_2 1 i) (cI g_2 2 i) (cI g_2 3 i) (cI g_2 4 i)) m (fun i=>M.Pk.mk (cI g_3 0 i) (cI g_3 1 i) (cI g_3 2 i) (cI g_3 3 i) (cI g_3 4 i) (cI g_3 5 i)) f n) (fun k=>[SI (M.Gd.leR (M.Gd.mk g_w g_h g_s g_v0 g_v1 g_d0 g_d1 g_r) (cI g_1 0) (fun i=>M.Sc.mk (cI g_2 0 i) (cI g_2 1 i) (cI g_2 2 i) (cI g_2 3 i) (cI g_2 4 i)) m (fun i=>M.Pk.mk (cI g_3 0 i) (cI g_3 1 i) (cI g_3 2 i) (cI g_3 3 i) (cI g_3 4 i) (cI g_3 5 i)) f n k).k,SI (M.Gd.leR (M.Gd.mk g_w g_h g_s g_v0 g_v1 g_d0 g_d1 g_r) (cI g_1 0) (fun i=>M.Sc.mk (cI g_2 0 i) (cI g_2 1 i) (cI g_2 2 i) (cI g_2 3 i) (cI g_2 4 i)) m (fun i=>M.Pk.mk (cI g_3 0 i) (cI g_3 1 i) (cI g_3 2 i) (cI g_3 3 i) (cI g_3 4 i) (cI g_3 5 i)) f n k).c,SI (M.Gd.leR (M.Gd.mk g_w g_h g_s g_v0 g_v1 g_d0 g_d1 g_r) (cI g_1 0) (fun i=>M.Sc.mk (cI g_2 0 i) (cI g_2 1 i) (cI g_2 2 i) (cI g_2 3 i) (cI g_2 4 i)) m (fun i=>M.Pk.mk (cI g_3 0 i) (cI g_3 1 i) (cI g_3 2 i) (cI g_3 3 i) (cI g_3 4 i) (cI g_3 5 i)) f n k).q,SI (M.Gd.leR (M.Gd.mk g_w g_h g_s g_v0 g_v1 g_d0 g_d1 g_r) (cI g_1 0) (fun i=>M.Sc.mk (cI g_2 0 i) (cI g_2 1 i) (cI g_2 2 i) (cI g_2 3 i) (cI g_2 4 i)) m (fun i=>M.Pk.mk (cI g_3 0 i) (cI g_3 1 i) (cI g_3 2 i) (cI g_3 3 i) (cI g_3 4 i) (cI g_3 5 i)) f n k).a,SI (M.Gd.leR (M.Gd.mk g_w g_h g_s g_v0 g_v1 g_d0 g_d1 g_r) (cI g_1 0) (fun i=>M.Sc.mk (cI g_2 0 i) (cI g_2 1 i) (cI g_2 2 i) (cI g_2 3 i) (cI g_2 4 i)) m (fun i=>M.Pk.mk (cI g_3 0 i) (cI g_3 1 i) (cI g_3 2 i) (cI g_3 3 i) (cI g_3 4 i) (cI g_3 5 i)) f n k).b]),.bool true])
 | _=>none
theorem s22t:PureOK PP 22 e22t:=by
 intro xs ps res h hp
 unfold e22t at h
 split at h
 ·rename_i g_w g_h g_s g_v0 g_v1 g_d0 g_d1 g_r ns g_1 n g_2 m g_3 f
  cases h
  simp only [AllP.cons] at hp
  obtain ⟨Hg_1,Hg_2,Hg_3,hp⟩:=hp
  have h6:=s22 [.agg [.int .i64 g_w,.int .i64 g_h,.int .i64 g_s,.int .i64 g_v0,.int .i64 g_v1,.int .i64 g_d0,.int .i64 g_d1,.int .i64 g_r,.sl 1 ns g_1,.sl 5 n g_2,.sl 6 m g_3,.int .i64 f]] _ _ rfl (AllP.cons.2 ⟨Hg_1,(AllP.cons.2 ⟨Hg_2,(AllP.cons.2 ⟨Hg_3,AllP.nil⟩)⟩)⟩)
  simp only [M.Gd.rnN,hp.1,if_true] at h6
  exact h6
 ·cases h
end Go.Proofs.Ytoncoofmijjgeaa.Sep
namespace Go.Proofs.Ytoncoofmijjgeaa.M
namespace Gd
def tA (g:Gd) (a b:Int):Int:=if g.kn2 a b=0 then g.T0 a b else 0
def tB (g:Gd) (a b:Int):Int:=if g.kn2 a b=0 then g.T1 a b else 0
def sA (g:Gd) (k a b:Int):Int:=if g.stE k a b=0 then g.S0 k a b else 0
def sB (g:Gd) (k a b:Int):Int:=if g.stE k a b=0 then g.S1 k a b else 0
end Gd
def wid (g:Gd) (a b c d e:Int):Gd:=⟨g.w,g.h,g.s,max 100 (g.v0-a),min 20000 (g.v1+b),max 0 (g.d0-c),min 700000 (g.d1+d),min 1000 (g.r+e)⟩
theorem wid_wd {g:Gd} {a b c d e:Int} (hk:g.ok) (ha:0≤a) (hb:0≤b) (hc:0≤c) (hd:0≤d) (he:0≤e):(wid g a b c d e).ok∧g.Wd (wid g a b c d e):=by
 obtain ⟨k1,k2,k3,k4,k5,k6⟩:=hk
 unfold Gd.ok Gd.Wd wid
 simp only
 exact ⟨⟨k1,k2,k3,by omega,by omega,by omega⟩,trivial,trivial,trivial,by omega,by omega,by omega,by omega,by omega⟩
theorem wid_le {g g':Gd} {ns:Nat} {x:Nat→Int} {n:Nat} {S:Nat→Sc} {m:Nat} {P:Nat→Pk} {f:Int} (h:g.Ck ns x n S m P f) (hk:g'.ok) (hw:g.Wd g') :
  g'.ckE ns x n S m P f=0∧ins (g.leN x S m P f n) (g'.leN x S m P f n) (g.leR x S m P f n) (g'.leR x S m P f n)=true:=by
 have hv:=h.va
 obtain ⟨k1,k2,k3,⟨k4,k5⟩,k6,k7,k8⟩:=h
 have hc:∀ c,g.cell c→g'.cell c:=fun c h=>by unfold Gd.cell at *; rw [hw.1,hw.2.1]; exact h
 have hs:∀ i,i<n→g'.Sok (S i):=fun i hi=>by
  obtain ⟨s1,s2,s3⟩:=k5 i hi
  exact ⟨s1,hc _ s2,s3⟩
 have hx:g'.all ns x:=fun i hi=>hc _ (k3 i hi)
 refine ⟨Gd.ckE_ok.2 ⟨hk,k2,hx,⟨k4,hs⟩,k6,k7,k8⟩,Gd.le_wide hv ⟨hk,hx,k7⟩ (fun i hi=>⟨k5 i hi,hs i hi⟩) (fun i hi t _ _ h1 => ?_)⟩
 have:=Gd.cnt_le (g:=g) (g':=g') (x:=x) (s:=S i) (m:=m) (P:=P) (t:=t) (fun j hj t h=>hw.alw k1 hk (k5 i hi).2.1 (k3 _ (by obtain ⟨-,v,-⟩:=k7 j hj; omega)) h)
 omega
theorem wid_kn {g g':Gd} {p q:Int} (hk:g.ok) (hk':g'.ok) (hw:g.Wd g'):g'.kn2 p q=g.kn2 p q∧g.kn2 q p=g.kn2 p q∧g.stE 5 p q=g.kn2 p q∧g'.stE 5 p q=g.kn2 p q∧(g.kn2 p q=0∨g.kn2 p q=4):=by
 have hc:∀ c,g'.cell c↔g.cell c:=fun c=>by unfold Gd.cell; rw [hw.1,hw.2.1]
 have e1:g'.kn2 p q=g.kn2 p q:=by unfold Gd.kn2; simp only [hc,hk,hk']
 have e2:g.kn2 q p=g.kn2 p q:=by
  unfold Gd.kn2
  by_cases c1:g.cell p <;> by_cases c2:g.cell q <;> simp [c1,c2]
 refine ⟨e1,e2,?_,?_,?_⟩
 ·unfold Gd.stE; split
  ·rename_i h; rw [h]; rfl
  ·rfl
 ·unfold Gd.stE; rw [e1]; split
  ·rename_i h; rw [h]; rfl
  ·rfl
 ·unfold Gd.kn2; rw [if_pos hk]; split <;> omega
theorem wid_val {g g':Gd} {p q:Int} (hk:g.ok) (hk':g'.ok) (hw:g.Wd g'):(g.tA p q=g.tA q p∧g.tB p q=g.tB q p)∧g'.tA p q≤g.tA p q∧g.tB p q≤g'.tB p q∧g'.sA 5 p q≤g.sA 5 p q∧g.sB 5 p q≤g'.sB 5 p q∧0≤g.tA p q∧g.tA p q≤g.tB p q∧g.sA 5 p q≤g.sB 5 p q:=by
 obtain ⟨e1,e2,e3,e4,e5⟩:=wid_kn (p:=p) (q:=q) hk hk' hw
 unfold Gd.tA Gd.tB Gd.sA Gd.sB
 rw [e1,e2,e3,e4]
 rcases e5 with e5 | e5
 ·simp only [e5,if_true]
  obtain ⟨-,h1,h2⟩:=Gd.kn2_ok.1 e5
  obtain ⟨a1,a2,a3⟩:=hw.bounds hk hk' h1 h2
  obtain ⟨a4,a5⟩:=a3 5
  obtain ⟨t1,t2,-⟩:=Gd.T_bd hk h1 h2
  obtain ⟨s1,-⟩:=Gd.S_bd hk (k:=5) h1 h2
  exact ⟨Gd.T_sym,a1,a2,a4,a5,t1,t2,s1⟩
 ·simp [e5]
end Go.Proofs.Ytoncoofmijjgeaa.M
namespace Go.Proofs.Ytoncoofmijjgeaa.Sep
open Go
set_option linter.unusedVariables false
set_option linter.unusedSimpArgs false
def e18t:List SV→Option (List Prop × SV)
 | [.agg [.int .i64 g_w,.int .i64 g_h,.int .i64 g_s,.int .i64 g_v0,.int .i64 g_v1,.int .i64 g_d0,.int .i64 g_d1,.int .i64 g_r],.sl 1 ns g_1,.sl 5 n g_2,.sl 6 m g_3,.int .i64 f]=>some ([Row 1 ns g_1,Row 5 n g_2,Row 6 m g_3,ns≤100000,n≤100000,m≤100000,M.Gd.ckE (M.Gd.mk g_w g_h g_s g_v0 g_v1 g_d0 g_d1 g_r) ns (cI g_1 0) n (fun i=>M.Sc.mk (cI g_2 0 i) (cI g_2 1 i) (cI g_2 2 i) (cI g_2 3 i) (cI g_2 4 i)) m (fun i=>M.Pk.mk (cI g_3 0 i) (cI g_3 1 i) (cI g_3 2 i) (cI g_3 3 i) (cI g_3 4 i) (cI g_3 5 i)) f=0],.tup [.sl 5 (M.Gd.leN (M.Gd.mk g_w g_h g_s g_v0 g_v1 g_d0 g_d1 g_r) (cI g_1 0) (fun i=>M.Sc.mk (cI g_2 0 i) (cI g_2 1 i) (cI g_2 2 i) (cI g_2 3 i) (cI g_2 4 i)) m (fun i=>M.Pk.mk (cI g_3 0 i) (cI g_3 1 i) (cI g_3 2 i) (cI g_3 3 i) (cI g_3 4 i) (cI g_3 5 i)) f n) (fun k=>[SI (M.Gd.leR (M.Gd.mk g_w g_h g_s g_v0 g_v1 g_d0 g_d1 g_r) (cI g_1 0) (fun i=>M.Sc.mk (cI g_2 0 i) (cI g_2 1 i) (cI g_2 2 i) (cI g_2 3 i) (cI g_2 4 i)) m (fun i=>M.Pk.mk (cI g_3 0 i) (cI g_3 1 i) (cI g_3 2 i) (cI g_3 3 i) (cI g_3 4 i) (cI g_3 5 i)) f n k).k,SI (M.Gd.leR (M.Gd.mk g_w g_h g_s g_v0 g_v1 g_d0 g_d1 g_r) (cI g_1 0) (fun i=>M.Sc.mk (cI g_2 0 i) (cI g_2 1 i) (cI g_2 2 i) (cI g_2 3 i) (cI g_2 4 i)) m (fun i=>M.Pk.mk (cI g_3 0 i) (cI g_3 1 i) (cI g_3 2 i) (cI g_3 3 i) (cI g_3 4 i) (cI g_3 5 i)) f n k).c,SI (M.Gd.leR (M.Gd.mk g_w g_h g_s g_v0 g_v1 g_d0 g_d1 g_r) (cI g_1 0) (fun i=>M.Sc.mk (cI g_2 0 i) (cI g_2 1 i) (cI g_2 2 i) (cI g_2 3 i) (cI g_2 4 i)) m (fun i=>M.Pk.mk (cI g_3 0 i) (cI g_3 1 i) (cI g_3 2 i) (cI g_3 3 i) (cI g_3 4 i) (cI g_3 5 i)) f n k).q,SI (M.Gd.leR (M.Gd.mk g_w g_h g_s g_v0 g_v1 g_d0 g_d1 g_r) (cI g_1 0) (fun i=>M.Sc.mk (cI g_2 0 i) (cI g_2 1 i) (cI g_2 2 i) (cI g_2 3 i) (cI g_2 4 i)) m (fun i=>M.Pk.mk (cI g_3 0 i) (cI g_3 1 i) (cI g_3 2 i) (cI g_3 3 i) (cI g_3 4 i) (cI g_3 5 i)) f n k).a,SI (M.Gd.leR (M.Gd.mk g_w g_h g_s g_v0 g_v1 g_d0 g_d1 g_r) (cI g_1 0) (fun i=>M.Sc.mk (cI g_2 0 i) (cI g_2 1 i) (cI g_2 2 i) (cI g_2 3 i) (cI g_2 4 i)) m (fun i=>M.Pk.mk (cI g_3 0 i) (cI g_3 1 i) (cI g_3 2 i) (cI g_3 3 i) (cI g_3 4 i) (cI g_3 5 i)) f n k).b]),SI 0])
 | _=>none
theorem s18t:PureOK PP 18 e18t:=by
 intro xs ps res h hp
 unfold e18t at h
 split at h
 ·rename_i g_w g_h g_s g_v0 g_v1 g_d0 g_d1 g_r ns g_1 n g_2 m g_3 f
  cases h
  simp only [AllP.cons] at hp
  obtain ⟨Hg_1,Hg_2,Hg_3,hp⟩:=hp
  have h6:=s18 [.agg [.int .i64 g_w,.int .i64 g_h,.int .i64 g_s,.int .i64 g_v0,.int .i64 g_v1,.int .i64 g_d0,.int .i64 g_d1,.int .i64 g_r],.sl 1 ns g_1,.sl 5 n g_2,.sl 6 m g_3,.int .i64 f] _ _ rfl (AllP.cons.2 ⟨Hg_1,(AllP.cons.2 ⟨Hg_2,(AllP.cons.2 ⟨Hg_3,(AllP.cons.2 ⟨(hp.1),(AllP.cons.2 ⟨(hp.2.1),(AllP.cons.2 ⟨(hp.2.2.1),AllP.nil⟩)⟩)⟩)⟩)⟩)⟩)
  simp only [hp.2.2.2.1,if_true] at h6
  exact h6
 ·cases h
def e24s:List SV→Option (List Prop × SV)
 | [.agg [.int .i64 g_w,.int .i64 g_h,.int .i64 g_s,.int .i64 g_v0,.int .i64 g_v1,.int .i64 g_d0,.int .i64 g_d1,.int .i64 g_r],.int .i64 a,.int .i64 b]=>some ([],.tup [.agg [SI (M.Gd.tA (M.Gd.mk g_w g_h g_s g_v0 g_v1 g_d0 g_d1 g_r) a b),SI (M.Gd.tB (M.Gd.mk g_w g_h g_s g_v0 g_v1 g_d0 g_d1 g_r) a b)],SI (M.Gd.kn2 (M.Gd.mk g_w g_h g_s g_v0 g_v1 g_d0 g_d1 g_r) a b)])
 | _=>none
theorem s24s:PureOK PP 24 e24s:=by
 intro xs ps res h hp
 unfold e24s at h
 split at h
 ·rename_i g_w g_h g_s g_v0 g_v1 g_d0 g_d1 g_r a b
  cases h
  clear hp
  have h6:=s24 [.agg [.int .i64 g_w,.int .i64 g_h,.int .i64 g_s,.int .i64 g_v0,.int .i64 g_v1,.int .i64 g_d0,.int .i64 g_d1,.int .i64 g_r],.int .i64 a,.int .i64 b] _ _ rfl AllP.nil
  exact h6
 ·cases h
def e26s:List SV→Option (List Prop × SV)
 | [.agg [.int .i64 g_w,.int .i64 g_h,.int .i64 g_s,.int .i64 g_v0,.int .i64 g_v1,.int .i64 g_d0,.int .i64 g_d1,.int .i64 g_r],.int .i64 k,.int .i64 a,.int .i64 b]=>some ([],.tup [.agg [SI (M.Gd.sA (M.Gd.mk g_w g_h g_s g_v0 g_v1 g_d0 g_d1 g_r) k a b),SI (M.Gd.sB (M.Gd.mk g_w g_h g_s g_v0 g_v1 g_d0 g_d1 g_r) k a b)],SI (M.Gd.stE (M.Gd.mk g_w g_h g_s g_v0 g_v1 g_d0 g_d1 g_r) k a b)])
 | _=>none
theorem s26s:PureOK PP 26 e26s:=by
 intro xs ps res h hp
 unfold e26s at h
 split at h
 ·rename_i g_w g_h g_s g_v0 g_v1 g_d0 g_d1 g_r k a b
  cases h
  clear hp
  have h6:=s26 [.agg [.int .i64 g_w,.int .i64 g_h,.int .i64 g_s,.int .i64 g_v0,.int .i64 g_v1,.int .i64 g_d0,.int .i64 g_d1,.int .i64 g_r],.int .i64 k,.int .i64 a,.int .i64 b] _ _ rfl AllP.nil
  exact h6
 ·cases h
def e6a:List SV→Option (List Prop × SV)
 | [.agg [.int .i64 g_w,.int .i64 g_h,.int .i64 g_s,.int .i64 g_v0,.int .i64 g_v1,.int .i64 g_d0,.int .i64 g_d1,.int .i64 g_r,.sl 1 ns g_1,.sl 5 n g_2,.sl 6 m g_3,.int .i64 f],.int .u16 a,.int .u16 b,.int .u16 c,.int .u16 d,.int .u16 e,.int .i64 p,.int .i64 q]=>some ([Row 1 ns g_1,Row 5 n g_2,Row 6 m g_3,M.Gd.rnB (M.Gd.mk g_w g_h g_s g_v0 g_v1 g_d0 g_d1 g_r) ns (cI g_1 0) n (fun i=>M.Sc.mk (cI g_2 0 i) (cI g_2 1 i) (cI g_2 2 i) (cI g_2 3 i) (cI g_2 4 i)) m (fun i=>M.Pk.mk (cI g_3 0 i) (cI g_3 1 i) (cI g_3 2 i) (cI g_3 3 i) (cI g_3 4 i) (cI g_3 5 i)) f=false],.bool true)
 | _=>none
def Rr6a (g:M.Gd) (ns:Nat) (x:Nat→Int) (n:Nat) (S:Nat→M.Sc) (m:Nat) (P:Nat→M.Pk) (f:Int) (a b c d e p q:Int):Prop:=(∀ (k:Nat),k<ns→x k=x k)∧(∀ (k:Nat),k<n→(S k).k=(S k).k∧(S k).c=(S k).c∧(S k).q=(S k).q∧(S k).a=(S k).a∧(S k).b=(S k).b)∧(∀ (k:Nat),k<m→(P k).k=(P k).k∧(P k).s=(P k).s∧(P k).t0=(P k).t0∧(P k).t1=(P k).t1∧(P k).l0=(P k).l0∧(P k).l1=(P k).l1)∧((!M.Gd.rnB g ns x n S m P f)=true→true=true)∧((!M.Gd.rnB g ns x n S m P f)=false→R64 a∧R64 (g.v0-a)∧R64 b∧R64 (g.v1+b)∧R64 c∧R64 (g.d0-c)∧R64 d∧R64 (g.d1+d)∧R64 e∧R64 (g.r+e)∧False)
theorem r6a (g:M.Gd) (ns:Nat) (x:Nat→Int) (n:Nat) (S:Nat→M.Sc) (m:Nat) (P:Nat→M.Pk) (f:Int) (a b c d e p q:Int):V true eqs [(17,pureE e17),(22,pureE e22)] Try.f6 [0,1,2,3,4,5,6,7,8,16,17,18,19,20,21,22,23,24,25,26,27,28,29,30,37,100,169] [] [.agg [SI (M.Gd.w g),SI (M.Gd.h g),SI (M.Gd.s g),SI (M.Gd.v0 g),SI (M.Gd.v1 g),SI (M.Gd.d0 g),SI (M.Gd.d1 g),SI (M.Gd.r g),.sl 1 ns (fun k=>[SI (x k)]),.sl 5 n (fun k=>[SI (M.Sc.k (S k)),SI (M.Sc.c (S k)),SI (M.Sc.q (S k)),SI (M.Sc.a (S k)),SI (M.Sc.b (S k))]),.sl 6 m (fun k=>[SI (M.Pk.k (P k)),SI (M.Pk.s (P k)),SI (M.Pk.t0 (P k)),SI (M.Pk.t1 (P k)),SI (M.Pk.l0 (P k)),SI (M.Pk.l1 (P k))]),SI f],.int .u16 a,.int .u16 b,.int .u16 c,.int .u16 d,.int .u16 e,SI p,SI q] (.bool true)=Rr6a g ns x n S m P f a b c d e p q:=by kernel_rfl
theorem br6a (g:M.Gd) (ns:Nat) (x:Nat→Int) (n:Nat) (S:Nat→M.Sc) (m:Nat) (P:Nat→M.Pk) (f:Int) (a b c d e p q:Int) (hp:(M.Gd.rnB g ns x n S m P f=false)∧AllP []):Rr6a g ns x n S m P f a b c d e p q:=by
 unfold Rr6a
 obtain ⟨hB,-⟩:=id hp
 simp [hB]
theorem s6a:PureOK PP 6 e6a:=by
 intro xs ps res h hp
 unfold e6a at h
 split at h
 ·rename_i g_w g_h g_s g_v0 g_v1 g_d0 g_d1 g_r ns g_1 n g_2 m g_3 f a b c d e p q
  cases h
  simp only [AllP.cons] at hp
  obtain ⟨Hg_1,Hg_2,Hg_3,hp⟩:=hp
  exact Spec.args (enterH (Hold.of (r6a (M.Gd.mk g_w g_h g_s g_v0 g_v1 g_d0 g_d1 g_r) ns (cI g_1 0) n (fun i=>M.Sc.mk (cI g_2 0 i) (cI g_2 1 i) (cI g_2 2 i) (cI g_2 3 i) (cI g_2 4 i)) m (fun i=>M.Pk.mk (cI g_3 0 i) (cI g_3 1 i) (cI g_3 2 i) (cI g_3 3 i) (cI g_3 4 i) (cI g_3 5 i)) f a b c d e p q) (br6a (M.Gd.mk g_w g_h g_s g_v0 g_v1 g_d0 g_d1 g_r) ns (cI g_1 0) n (fun i=>M.Sc.mk (cI g_2 0 i) (cI g_2 1 i) (cI g_2 2 i) (cI g_2 3 i) (cI g_2 4 i)) m (fun i=>M.Pk.mk (cI g_3 0 i) (cI g_3 1 i) (cI g_3 2 i) (cI g_3 3 i) (cI g_3 4 i) (cI g_3 5 i)) f a b c d e p q hp)) (eqsok) (.cons (pureE_ok s17) (.cons (pureE_ok s22) (.nil))) (k:=6) (by kernel_rfl) (by kernel_rfl) (fun _=>.nil)) (.cons (.agg (.cons (.refl _) (.cons (.refl _) (.cons (.refl _) (.cons (.refl _) (.cons (.refl _) (.cons (.refl _) (.cons (.refl _) (.cons (.refl _) (.cons (.row Hg_1 fun _=>rfl) (.cons (.row Hg_2 fun _=>rfl) (.cons (.row Hg_3 fun _=>rfl) (.cons (.refl _) .nil))))))))))))) (.cons (.refl _) (.cons (.refl _) (.cons (.refl _) (.cons (.refl _) (.cons (.refl _) (.cons (.refl _) (.cons (.refl _) .nil))))))))
 ·cases h
def e6b:List SV→Option (List Prop × SV)
 | [.agg [.int .i64 g_w,.int .i64 g_h,.int .i64 g_s,.int .i64 g_v0,.int .i64 g_v1,.int .i64 g_d0,.int .i64 g_d1,.int .i64 g_r,.sl 1 ns g_1,.sl 5 n g_2,.sl 6 m g_3,.int .i64 f],.int .u16 a,.int .u16 b,.int .u16 c,.int .u16 d,.int .u16 e,.int .i64 p,.int .i64 q]=>some ([Row 1 ns g_1,Row 5 n g_2,Row 6 m g_3,M.Gd.rnB (M.Gd.mk g_w g_h g_s g_v0 g_v1 g_d0 g_d1 g_r) ns (cI g_1 0) n (fun i=>M.Sc.mk (cI g_2 0 i) (cI g_2 1 i) (cI g_2 2 i) (cI g_2 3 i) (cI g_2 4 i)) m (fun i=>M.Pk.mk (cI g_3 0 i) (cI g_3 1 i) (cI g_3 2 i) (cI g_3 3 i) (cI g_3 4 i) (cI g_3 5 i)) f=true,0≤a,a<65536,0≤b,b<65536,0≤c,c<65536,0≤d,d<65536,0≤e,e<65536],.bool true)
 | _=>none
def Rr6b (g:M.Gd) (ns:Nat) (x:Nat→Int) (n:Nat) (S:Nat→M.Sc) (m:Nat) (P:Nat→M.Pk) (f:Int) (a b c d e p q:Int):Prop:=(fun (z23:Bool) (z0:M.Gd) (z25 z28:Nat) (z14:Nat→M.Sc) (z16 z17 z31:Prop)=>(fun (z3 z13:Bool) (z26:Nat) (z12:Nat→M.Sc) (z9 z10:Prop)=>(fun (z1 z5:Bool) (z6 z20 z27 z29:Prop)=>(fun (z4 z11:Bool) (z8 z24 z32 z34:Prop)=>(fun (z2 z15:Bool) (z21 z30 z35:Prop)=>(fun (z7:Bool) (z19 z22:Prop)=>(fun (z18:Bool) (z33:Prop)=>z31∧z17∧z16∧M.Gd.rnB g ns x n S m P f=true∧((!true)=true→true=true)∧((!true)=false→R64 a∧R64 (g.v0-a)∧R64 b∧R64 (g.v1+b)∧R64 c∧R64 (g.d0-c)∧R64 d∧R64 (g.d1+d)∧R64 e∧R64 (g.r+e)∧z31∧z17∧z16∧ns≤z25∧n≤z25∧m≤z25∧M.Gd.ckE z0 ns x n S m P f=(0:Int)∧(z9→z9)∧(z9→z9)∧(z9→∀ (k:Nat),k<z28→(z14 k).k=(z14 k).k∧(z14 k).c=(z14 k).c∧(z14 k).q=(z14 k).q∧(z14 k).a=(z14 k).a∧(z14 k).b=(z14 k).b)∧(z9→∀ (k:Nat),k<z26→(z12 k).k=(z12 k).k∧(z12 k).c=(z12 k).c∧(z12 k).q=(z12 k).q∧(z12 k).a=(z12 k).a∧(z12 k).b=(z12 k).b)∧(z9→z28≤z25)∧(z9→z26≤z25)∧(z9→M.ins z28 z26 z14 z12=true)∧(z9→z9)∧(z23=false→z9)∧((bif z23 then true else !true)=true→false=true)∧((bif z23 then true else !true)=false→(z29→z29)∧(z29→z29)∧(z13=false→z29)∧(z32→z32)∧(z32→z32)∧(z5=false→z32)∧(z30→z30)∧(z30→z30)∧(z11=false→z30)∧(z22→z22)∧(z22→z22)∧(z19→z19)∧(z22→z22)∧(z22→(!decide (M.Gd.kn2 g p q=(0:Int)))=true→z19)∧(z2=false→z22)∧(z33→z33)∧(z33→z33)∧(z7=false→z33)∧(z18=true→false=true)∧(z18=false→z27∧z27∧z27∧z27∧z27∧z20∧z20∧z20∧z20∧z20∧z34∧z34∧z34∧z34∧z34∧z24∧z24∧z24∧z35∧z35∧z35∧z35∧z35∧z21∧z21∧z21∧z21∧z21∧(z15=true→z15=true)∧(bif z15 then true else false)=true)))) (bif z7 then true else !(decide (M.Gd.tA g p q=M.Gd.tA g q p) && (decide (M.Gd.tB g p q=M.Gd.tB g q p) && true))) ((!z7)=true)) (bif z2 then true else bif !decide (M.Gd.kn2 g p q=(0:Int)) then !decide (M.Gd.kn2 g p q=(4:Int)) else false) (((!z2) && !decide (M.Gd.kn2 g p q=(0:Int)))=true) ((!z2)=true)) (bif z11 then true else !decide (M.Gd.kn2 g p q=M.Gd.stE z0 (5:Int) p q)) (bif z4 then decide (M.Gd.sA g (5:Int) p q≤M.Gd.sB g (5:Int) p q) else false) (z4=true→z4=true) ((!z11)=true) (z8→z8)) (bif bif z1 then decide ((0:Int)≤M.Gd.tA g p q) else false then decide (M.Gd.tA g p q≤M.Gd.tB g p q) else false) (bif z5 then true else !decide (M.Gd.kn2 g p q=M.Gd.stE g (5:Int) p q)) ((bif z1 then decide ((0:Int)≤M.Gd.tA g p q) else false)=true) (z1=true→z1=true) ((!z5)=true) (z6→z6)) (bif bif z3 then decide (M.Gd.sA z0 (5:Int) p q≤M.Gd.sA g (5:Int) p q) else false then decide (M.Gd.sB g (5:Int) p q≤M.Gd.sB z0 (5:Int) p q) else false) (bif z13 then true else !decide (M.Gd.kn2 g p q=M.Gd.kn2 g q p)) ((bif z3 then decide (M.Gd.sA z0 (5:Int) p q≤M.Gd.sA g (5:Int) p q) else false)=true) (z3=true→z3=true) (z10→z10) ((!z13)=true)) (bif decide (M.Gd.tA z0 p q≤M.Gd.tA g p q) then decide (M.Gd.tB g p q≤M.Gd.tB z0 p q) else false) (!decide (M.Gd.kn2 g p q=M.Gd.kn2 z0 p q)) (M.Gd.leN z0 x S m P f n) (M.Gd.leR z0 x S m P f n) ((!z23)=true) (decide (M.Gd.tA z0 p q≤M.Gd.tA g p q)=true)) (!decide ((0:Int)=(0:Int))) (M.Gd.mk g.w g.h g.s (max (100:Int) (g.v0-a)) (min (20000:Int) (g.v1+b)) (max (0:Int) (g.d0-c)) (min (700000:Int) (g.d1+d)) (min (1000:Int) (g.r+e))) (100000:Nat) (M.Gd.leN g x S m P f n) (M.Gd.leR g x S m P f n) (∀ (k:Nat),k<m→(P k).k=(P k).k∧(P k).s=(P k).s∧(P k).t0=(P k).t0∧(P k).t1=(P k).t1∧(P k).l0=(P k).l0∧(P k).l1=(P k).l1) (∀ (k:Nat),k<n→(S k).k=(S k).k∧(S k).c=(S k).c∧(S k).q=(S k).q∧(S k).a=(S k).a∧(S k).b=(S k).b) (∀ (k:Nat),k<ns→x k=x k)
theorem r6b (g:M.Gd) (ns:Nat) (x:Nat→Int) (n:Nat) (S:Nat→M.Sc) (m:Nat) (P:Nat→M.Pk) (f:Int) (a b c d e p q:Int):V true eqs [(17,pureE e17),(18,pureE e18t),(22,pureE e22t),(23,pureE e23t),(24,pureE e24s),(26,pureE e26s)] Try.f6 [0,1,2,3,4,5,6,7,8,16,17,18,19,20,21,22,23,24,25,26,27,28,29,30,37,100,169] [] [.agg [SI (M.Gd.w g),SI (M.Gd.h g),SI (M.Gd.s g),SI (M.Gd.v0 g),SI (M.Gd.v1 g),SI (M.Gd.d0 g),SI (M.Gd.d1 g),SI (M.Gd.r g),.sl 1 ns (fun k=>[SI (x k)]),.sl 5 n (fun k=>[SI (M.Sc.k (S k)),SI (M.Sc.c (S k)),SI (M.Sc.q (S k)),SI (M.Sc.a (S k)),SI (M.Sc.b (S k))]),.sl 6 m (fun k=>[SI (M.Pk.k (P k)),SI (M.Pk.s (P k)),SI (M.Pk.t0 (P k)),SI (M.Pk.t1 (P k)),SI (M.Pk.l0 (P k)),SI (M.Pk.l1 (P k))]),SI f],.int .u16 a,.int .u16 b,.int .u16 c,.int .u16 d,.int .u16 e,SI p,SI q] (.bool true)=Rr6b g ns x n S m P f a b c d e p q:=by kernel_rfl
theorem br6b (g:M.Gd) (ns:Nat) (x:Nat→Int) (n:Nat) (S:Nat→M.Sc) (m:Nat) (P:Nat→M.Pk) (f:Int) (a b c d e p q:Int) (hp:(M.Gd.rnB g ns x n S m P f=true)∧(0≤a)∧(a<65536)∧(0≤b)∧(b<65536)∧(0≤c)∧(c<65536)∧(0≤d)∧(d<65536)∧(0≤e)∧(e<65536)∧AllP []):Rr6b g ns x n S m P f a b c d e p q:=by
 unfold Rr6b
 dsimp -iota -proj -eta -zeta only
 obtain ⟨hB,a1,a2,b1,b2,c1,c2,d1,d2,e1,e2,-⟩:=id hp
 obtain ⟨⟨n1,n2,n3,n4⟩,hC⟩:=M.rnB_ok.1 hB
 have eg:M.Gd.mk g.w g.h g.s (max 100 (g.v0-a)) (min 20000 (g.v1+b)) (max 0 (g.d0-c)) (min 700000 (g.d1+d)) (min 1000 (g.r+e))=M.wid g a b c d e:=rfl
 have hk:=hC.1
 obtain ⟨hk',hw⟩:=M.wid_wd (a:=a) (b:=b) (c:=c) (d:=d) (e:=e) hk a1 b1 c1 d1 e1
 obtain ⟨g1,g2⟩:=M.wid_le hC hk' hw
 obtain ⟨x1,x2,x3,x4,x5⟩:=M.wid_kn (p:=p) (q:=q) hk hk' hw
 obtain ⟨⟨y1,y2⟩,y3,y4,y5,y6,y7,y8,y9⟩:=M.wid_val (p:=p) (q:=q) hk hk' hw
 have l1:=M.Gd.leN_le (g:=g) (x:=x) (s:=S) (m:=m) (P:=P) (f:=f) n
 have l2:=M.Gd.leN_le (g:=M.wid g a b c d e) (x:=x) (s:=S) (m:=m) (P:=P) (f:=f) n
 have rr:∀ z:Int,-4000000000000≤z→z≤4000000000000→R64 z:=fun z h1 h2=>by unfold R64; omega
 obtain ⟨k1,k2,k3,k4,k5,k6⟩:=id hk
 have r1:R64 a:=rr _ (by omega) (by omega)
 have r2:R64 b:=rr _ (by omega) (by omega)
 have r3:R64 c:=rr _ (by omega) (by omega)
 have r4:R64 d:=rr _ (by omega) (by omega)
 have r5:R64 e:=rr _ (by omega) (by omega)
 have r6:R64 (g.v0-a):=rr _ (by omega) (by omega)
 have r7:R64 (g.v1+b):=rr _ (by omega) (by omega)
 have r8:R64 (g.d0-c):=rr _ (by omega) (by omega)
 have r9:R64 (g.d1+d):=rr _ (by omega) (by omega)
 have r10:R64 (g.r+e):=rr _ (by omega) (by omega)
 simp only [eg,hB,g1,g2,x1,x2,x3,x4,← y1,← y2,r1,r2,r3,r4,r5,r6,r7,r8,r9,r10]
 simp [y3,y4,y5,y6,y7,y8,y9]
 omega
theorem s6b:PureOK PP 6 e6b:=by
 intro xs ps res h hp
 unfold e6b at h
 split at h
 ·rename_i g_w g_h g_s g_v0 g_v1 g_d0 g_d1 g_r ns g_1 n g_2 m g_3 f a b c d e p q
  cases h
  simp only [AllP.cons] at hp
  obtain ⟨Hg_1,Hg_2,Hg_3,hp⟩:=hp
  exact Spec.args (enterH (Hold.of (r6b (M.Gd.mk g_w g_h g_s g_v0 g_v1 g_d0 g_d1 g_r) ns (cI g_1 0) n (fun i=>M.Sc.mk (cI g_2 0 i) (cI g_2 1 i) (cI g_2 2 i) (cI g_2 3 i) (cI g_2 4 i)) m (fun i=>M.Pk.mk (cI g_3 0 i) (cI g_3 1 i) (cI g_3 2 i) (cI g_3 3 i) (cI g_3 4 i) (cI g_3 5 i)) f a b c d e p q) (br6b (M.Gd.mk g_w g_h g_s g_v0 g_v1 g_d0 g_d1 g_r) ns (cI g_1 0) n (fun i=>M.Sc.mk (cI g_2 0 i) (cI g_2 1 i) (cI g_2 2 i) (cI g_2 3 i) (cI g_2 4 i)) m (fun i=>M.Pk.mk (cI g_3 0 i) (cI g_3 1 i) (cI g_3 2 i) (cI g_3 3 i) (cI g_3 4 i) (cI g_3 5 i)) f a b c d e p q hp)) (eqsok) (.cons (pureE_ok s17) (.cons (pureE_ok s18t) (.cons (pureE_ok s22t) (.cons (pureE_ok s23t) (.cons (pureE_ok s24s) (.cons (pureE_ok s26s) (.nil))))))) (k:=6) (by kernel_rfl) (by kernel_rfl) (fun _=>.nil)) (.cons (.agg (.cons (.refl _) (.cons (.refl _) (.cons (.refl _) (.cons (.refl _) (.cons (.refl _) (.cons (.refl _) (.cons (.refl _) (.cons (.refl _) (.cons (.row Hg_1 fun _=>rfl) (.cons (.row Hg_2 fun _=>rfl) (.cons (.row Hg_3 fun _=>rfl) (.cons (.refl _) .nil))))))))))))) (.cons (.refl _) (.cons (.refl _) (.cons (.refl _) (.cons (.refl _) (.cons (.refl _) (.cons (.refl _) (.cons (.refl _) .nil))))))))
 ·cases h
theorem s6 {w h s v0 v1 d0 d1 r:Int} {ns n m:Nat} {f a b c d e p q:Int} {G1 G2 G3:Nat→List SV} (H1:Row 1 ns G1) (H2:Row 5 n G2) (H3:Row 6 m G3) (ha:0≤a∧a<65536) (hb:0≤b∧b<65536) (hc:0≤c∧c<65536) (hd:0≤d∧d<65536) (he:0≤e∧e<65536) :
  Pure PP 6 (SV.denL [.agg [.int .i64 w,.int .i64 h,.int .i64 s,.int .i64 v0,.int .i64 v1,.int .i64 d0,.int .i64 d1,.int .i64 r,.sl 1 ns G1,.sl 5 n G2,.sl 6 m G3,.int .i64 f],.int .u16 a,.int .u16 b,.int .u16 c,.int .u16 d,.int .u16 e,.int .i64 p,.int .i64 q]) (SV.bool true).den:=by
 cases hB:M.Gd.rnB (M.Gd.mk w h s v0 v1 d0 d1 r) ns (cI G1 0) n (fun i=>M.Sc.mk (cI G2 0 i) (cI G2 1 i) (cI G2 2 i) (cI G2 3 i) (cI G2 4 i)) m (fun i=>M.Pk.mk (cI G3 0 i) (cI G3 1 i) (cI G3 2 i) (cI G3 3 i) (cI G3 4 i) (cI G3 5 i)) f with
 | false=>exact s6a _ _ _ rfl (AllP.cons.2 ⟨H1,AllP.cons.2 ⟨H2,AllP.cons.2 ⟨H3,AllP.cons.2 ⟨hB,AllP.nil⟩⟩⟩⟩)
 | true=>exact s6b _ _ _ rfl (AllP.cons.2 ⟨H1,AllP.cons.2 ⟨H2,AllP.cons.2 ⟨H3,AllP.cons.2 ⟨hB,AllP.cons.2 ⟨ha.1,AllP.cons.2 ⟨ha.2,AllP.cons.2 ⟨hb.1,AllP.cons.2 ⟨hb.2,AllP.cons.2 ⟨hc.1,AllP.cons.2 ⟨hc.2,AllP.cons.2 ⟨hd.1,AllP.cons.2 ⟨hd.2,AllP.cons.2 ⟨he.1,AllP.cons.2 ⟨he.2,AllP.nil⟩⟩⟩⟩⟩⟩⟩⟩⟩⟩⟩⟩⟩⟩)
end Go.Proofs.Ytoncoofmijjgeaa.Sep
