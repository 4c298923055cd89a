/-
  Texts of one seat, joined. No condition. (This text proves no statement by itself.)
-/
import Derived.Test.YtoncoofmijjgeaaKR13
import Derived.Test.YtoncoofmijjgeaaKSep21
import Derived.Test.YtoncoofmijjgeaaKR10
namespace Go.Proofs.Ytoncoofmijjgeaa.M
open Go
set_option linter.unusedVariables false
set_option linter.unusedSimpArgs false
def nxF (c : Nat → Bool) : Nat → Nat → Nat
 | 0, k => k
 | f + 1, k => if c k = true then k else nxF c f (k + 1)
theorem nxF_end {c : Nat → Bool} {m k : Nat} (h : m ≤ k) : nxF c (m - k) k = k := by
 rw [show m - k = 0 by omega]; rfl
theorem nxF_stop {c : Nat → Bool} {m k : Nat} (h : k < m) (hc : c k = true) : nxF c (m - k) k = k := by
 obtain ⟨r, hr⟩ : ∃ r, m - k = r + 1 := ⟨m - k - 1, by omega⟩
 rw [hr]; unfold nxF; rw [if_pos hc]
theorem nxF_step {c : Nat → Bool} {m k : Nat} (h : k < m) (hc : c k = false) : nxF c (m - k) k = nxF c (m - (k + 1)) (k + 1) := by
 rw [show m - k = m - (k + 1) + 1 by omega]
 conv => lhs; unfold nxF
 rw [if_neg (by simp [hc])]
theorem nxF_le {c : Nat → Bool} {m : Nat} : ∀ {f k : Nat}, f = m - k → k ≤ m → k ≤ nxF c f k ∧ nxF c f k ≤ m
 | 0, k, h, h' => by unfold nxF; omega
 | f + 1, k, h, h' => by
  unfold nxF
  split
  ·omega
  ·have := nxF_le (c := c) (m := m) (f := f) (k := k + 1) (by omega) (by omega); omega
theorem nxF_min {c : Nat → Bool} {m j : Nat} (hj : j < m) (hc : c j = true) : ∀ {f k : Nat}, f = m - k → k ≤ j → nxF c f k ≤ j ∧ c (nxF c f k) = true
 | 0, k, h, h' => by omega
 | f + 1, k, h, h' => by
  unfold nxF
  split
  ·rename_i h2; exact ⟨h', h2⟩
  ·rename_i h2
   have : k ≠ j := fun e => by subst e; exact h2 hc
   exact nxF_min hj hc (by omega) (by omega)
def inB (z t : Sc) : Bool := decide (t.k = z.k ∧ t.c = z.c ∧ t.q = z.q ∧ t.a ≤ z.a ∧ z.b ≤ t.b)
def inF (s t : Nat → Sc) (m : Nat) : Nat → Nat → Nat → Bool
 | 0, _, _ => true
 | f + 1, i, k => if nxF (fun j => inB (s i) (t j)) (m - k) k = m then false else inF s t m f (i + 1) (nxF (fun j => inB (s i) (t j)) (m - k) k + 1)
theorem inF_end {s t : Nat → Sc} {n m i k : Nat} (h : n ≤ i) : inF s t m (n - i) i k = true := by
 rw [show n - i = 0 by omega]; rfl
theorem inF_step {s t : Nat → Sc} {n m i k : Nat} (h : i < n) : inF s t m (n - i) i k = if nxF (fun j => inB (s i) (t j)) (m - k) k = m then false else inF s t m (n - (i + 1)) (i + 1) (nxF (fun j => inB (s i) (t j)) (m - k) k + 1) := by
 rw [show n - i = n - (i + 1) + 1 by omega]
 conv => lhs; unfold inF
theorem inF_of {s t : Nat → Sc} {n m : Nat} {p : Nat → Nat} (hp : ∀ i, i < n → p i < m ∧ inB (s i) (t (p i)) = true) (hm : ∀ i, i + 1 < n → p i < p (i + 1)) : ∀ {f i k : Nat}, f = n - i → (i < n → k ≤ p i) → k ≤ m → inF s t m f i k = true
 | 0, i, k, h, h1, h2 => rfl
 | f + 1, i, k, h, h1, h2 => by
  obtain ⟨a1, a2⟩ := hp i (by omega)
  obtain ⟨b1, b2⟩ := nxF_min (c := fun j => inB (s i) (t j)) a1 a2 (f := m - k) (k := k) rfl (h1 (by omega))
  unfold inF
  rw [if_neg (by omega)]
  refine inF_of hp hm (by omega) (fun h3 => ?_) (by omega)
  have := hm i (by omega)
  omega
def ins (n m : Nat) (s t : Nat → Sc) : Bool := inF s t m n 0 0
inductive Sub : List Sc → List Sc → Prop
 | nil (b : List Sc) : Sub [] b
 | skip {a b : List Sc} (y : Sc) (h : Sub a b) : Sub a (y :: b)
 | cons {a b : List Sc} {x y : Sc} (hx : inB x y = true) (h : Sub a b) : Sub (x :: a) (y :: b)
theorem Sub.app {a b a' b' : List Sc} (h : Sub a b) (h' : Sub a' b') : Sub (a ++ a') (b ++ b') := by
 induction h with
 | nil b =>
  induction b with
  | nil => exact h'
  | cons y b ih => exact .skip y ih
 | skip y h ih => exact .skip y ih
 | cons hx h ih => exact .cons hx ih
theorem Sub.one {x y : Sc} (h : inB x y = true) : Sub [x] [y] := .cons h (.nil [])
theorem Sub.map {a b : List Sc} (h : Sub a b) : ∃ p : Nat → Nat, (∀ i, i < a.length → p i < b.length ∧ inB (scR a i) (scR b (p i)) = true) ∧ ∀ i, i + 1 < a.length → p i < p (i + 1) := by
 induction h with
 | nil b => exact ⟨fun _ => 0, fun i h => by simp at h, fun i h => by simp at h⟩
 | skip y h ih =>
  obtain ⟨p, h1, h2⟩ := ih
  exact ⟨fun i => p i + 1, fun i hi => ⟨by have := (h1 i hi).1; simp; omega, (h1 i hi).2⟩, fun i hi => by have := h2 i hi; simp only []; omega⟩
 | cons hx h ih =>
  obtain ⟨p, h1, h2⟩ := ih
  refine ⟨fun i => match i with | 0 => 0 | i + 1 => p i + 1, fun i hi => ?_, fun i hi => ?_⟩
  ·cases i with
   | zero => exact ⟨by simp, hx⟩
   | succ i =>
    simp only [List.length_cons] at hi
    exact ⟨by have := (h1 i (by omega)).1; simp; omega, (h1 i (by omega)).2⟩
  ·cases i with
   | zero => simp
   | succ i =>
    simp only [List.length_cons] at hi
    have := h2 i (by omega)
    simp only []; omega
theorem inF_congr {s s' t t' : Nat → Sc} {n m : Nat} (hs : ∀ i, i < n → s i = s' i) (ht : ∀ i, i < m → t i = t' i) : ∀ {f i k : Nat}, f = n - i → k ≤ m → inF s t m f i k = inF s' t' m f i k
 | 0, i, k, h, h1 => rfl
 | f + 1, i, k, h, h1 => by
  have e : ∀ {g j : Nat}, g = m - j → j ≤ m → nxF (fun j => inB (s i) (t j)) g j = nxF (fun j => inB (s' i) (t' j)) g j := by
   intro g
   induction g with
   | zero => intro j _ _; rfl
   | succ g ih =>
    intro j h2 h3
    unfold nxF
    rw [hs i (by omega), ht j (by omega), ← hs i (by omega), ih (by omega) (by omega), hs i (by omega)]
  have hb := nxF_le (c := fun j => inB (s' i) (t' j)) (m := m) (f := m - k) (k := k) rfl h1
  unfold inF
  rw [e rfl h1]
  split
  ·rfl
  ·exact inF_congr hs ht (by omega) (by omega)
theorem Sub.ins {a b : List Sc} (h : Sub a b) : ins a.length b.length (scR a) (scR b) = true := by
 obtain ⟨p, h1, h2⟩ := h.map
 exact inF_of h1 h2 rfl (fun _ => Nat.zero_le _) (Nat.zero_le _)
theorem ins_congr {n m : Nat} {s s' t t' : Nat → Sc} (hs : ∀ i, i < n → s i = s' i) (ht : ∀ i, i < m → t i = t' i) : ins n m s t = ins n m s' t' := inF_congr hs ht rfl (Nat.zero_le _)
theorem fmL_all {s : Nat → Sc} : ∀ n, fmL (fun i => some (s i)) n = (List.range n).map s
 | 0 => rfl
 | n + 1 => by unfold fmL; rw [fmL_all n, List.range_succ, List.map_append]; rfl
theorem scR_row {s : Nat → Sc} {n i : Nat} (h : i < n) : scR ((List.range n).map s) i = s i := by
 unfold scR
 rw [List.getD_eq_getElem?_getD, List.getElem?_map, List.getElem?_range h]
 rfl
theorem fm_sub {o o' : Nat → Option Sc} : ∀ {n : Nat}, (∀ i, i < n → ∀ z, o i = some z → ∃ y, o' i = some y ∧ inB z y = true) → Sub (fmL o n) (fmL o' n)
 | 0, h => .nil _
 | n + 1, h => by
  have ih := fm_sub (o := o) (o' := o') (n := n) (fun i hi => h i (by omega))
  unfold fmL
  cases e : o n with
  | none =>
   cases e' : o' n with
   | none => exact ih
   | some y => have := ih.app (Sub.nil [y]); simpa using this
  | some z =>
   obtain ⟨y, hy, hz⟩ := h n (by omega) z e
   rw [hy]
   exact ih.app (Sub.one hz)
theorem fm_ins {o o' : Nat → Option Sc} {n : Nat} (h : ∀ i, i < n → ∀ z, o i = some z → ∃ y, o' i = some y ∧ inB z y = true) : ins (fmN o n) (fmN o' n) (fmR o n) (fmR o' n) = true := (fm_sub h).ins
theorem fm_in {o : Nat → Option Sc} {s : Nat → Sc} {n : Nat} (h : ∀ i, i < n → ∀ z, o i = some z → inB z (s i) = true) : ins (fmN o n) n (fmR o n) s = true := by
 have h1 := (fm_sub (o := o) (o' := fun i => some (s i)) (n := n) (fun i hi z hz => ⟨_, rfl, h i hi z hz⟩)).ins
 rw [fmL_all] at h1
 simp only [List.length_map, List.length_range] at h1
 rw [← h1]
 exact ins_congr (fun _ _ => rfl) (fun i hi => (scR_row hi).symm)
theorem inB_refl (z : Sc) : inB z z = true := by unfold inB; simp
end Go.Proofs.Ytoncoofmijjgeaa.M
namespace Go.Proofs.Ytoncoofmijjgeaa.M
end Go.Proofs.Ytoncoofmijjgeaa.M
namespace Go.Proofs.Ytoncoofmijjgeaa.Sep
open Go
set_option linter.unusedVariables false
set_option linter.unusedSimpArgs false
def lp23b (n m:Nat) (sk sc sq sa sb:Nat→Int) (tk tc tq ta tb:Nat→Int) (i k0:Nat):LoopS where
 ι:=Nat
 β:=Nat
 pre k:=k≤m∧i<n∧n≤100000∧m≤100000
 μ k:=m-k
 next k _ _ _:=k+1
 out k:=M.nxF (fun j=>M.inB (M.Sc.mk (sk i) (sc i) (sq i) (sa i) (sb i)) ((fun i=>M.Sc.mk (tk i) (tc i) (tq i) (ta i) (tb i)) j)) (m-k) k
 early _:=false
 SA k:=[(0,.sl 5 n (fun j=>[SI (sk j),SI (sc j),SI (sq j),SI (sa j),SI (sb j)])),(1,.sl 5 m (fun j=>[SI (tk j),SI (tc j),SI (tq j),SI (ta j),SI (tb j)])),(4,.bool false),(5,SI k),(6,SI i)]
 SH _:=[]
 n0:=0
 NA k:=[(0,.sl 5 n (fun j=>[SI (sk j),SI (sc j),SI (sq j),SI (sa j),SI (sb j)])),(1,.sl 5 m (fun j=>[SI (tk j),SI (tc j),SI (tq j),SI (ta j),SI (tb j)])),(4,.bool false),(5,SI k),(6,SI i)]
 NH _:=[]
 n1:=0
 RA _:=[]
 RH _:=[]
def Rq23b (n m:Nat) (sk sc sq sa sb:Nat→Int) (tk tc tq ta tb:Nat→Int) (i k0:Nat) (k:Nat):Prop:=(fun (z7 z13:Int) (z24:Nat) (z9:Nat→Nat→Nat) (z11 z12:Prop)=>(fun (z1:Bool) (z8 z16:Nat) (z19 z20 z21 z23:Prop)=>(fun (z0:Bool) (z2 z4 z22:Prop)=>(fun (z10:Bool) (z3 z5 z6 z17 z18:Prop)=>(fun (z14 z15:Prop)=>z6∧z6∧(z22→z20)∧(z22→z19)∧z6∧z6∧(z22→z8<m)∧z6∧z6∧(z22→z23)∧(z22→z21)∧z6∧z6∧(z22→z16<n)∧z6∧z6∧z6∧z17∧z17∧(z4→z20)∧(z4→z19)∧z17∧z17∧(z4→z8<m)∧z17∧z17∧(z4→z23)∧(z4→z21)∧z17∧z17∧(z4→z16<n)∧z17∧z17∧z6∧(z22→(!decide (tk z8=sk z16))=false→z4)∧z6∧z18∧z18∧(z2→z20)∧(z2→z19)∧z18∧z18∧(z2→z8<m)∧z18∧z18∧(z2→z23)∧(z2→z21)∧z18∧z18∧(z2→z16<n)∧z18∧z18∧z6∧(z22→(bif !decide (tk z8=sk z16) then true else !decide (tc z8=sc z16))=false→z2)∧z6∧z14∧z14∧(z5→z20)∧(z5→z19)∧z14∧z14∧z14∧(z5→z8<m)∧z14∧z14∧(z5→z23)∧(z5→z21)∧z14∧z14∧z14∧(z5→z16<n)∧z14∧z14∧z6∧(z22→z0=false→z5)∧z6∧z15∧z15∧(z3→z20)∧(z3→z19)∧z15∧z15∧z15∧(z3→z8<m)∧z15∧z15∧(z3→z23)∧(z3→z21)∧z15∧z15∧z15∧(z3→z16<n)∧z15∧z15∧z6∧(z22→(bif z0 then true else decide (sa z16<ta z8))=false→z3)∧z6∧(z10=true→R64 (z13+(1:Int))∧(z24≤m∧i<n∧n≤(100000:Nat)∧m≤(100000:Nat))∧m-z24<m-k∧z9 (m-z24) z24=z9 (m-k) k∧z11∧z12∧false=false∧z13+(1:Int)=(↑z24:Int)∧z7=z7∧True)∧(z10=false→false=false∧z11∧z12∧false=false∧z13=(↑(z9 (m-k) k):Int)∧z7=z7∧True)) (z5→z5) (z3→z3)) (bif z1 then bif bif z0 then true else decide (sa z16<ta z8) then true else decide (tb z8<sb z16) else false) ((z1 && !bif z0 then true else decide (sa z16<ta z8))=true) ((z1 && !z0)=true) (z22→z22) (z4→z4) (z2→z2)) (bif bif !decide (tk z8=sk z16) then true else !decide (tc z8=sc z16) then true else !decide (tq z8=sq z16)) ((z1 && !bif !decide (tk z8=sk z16) then true else !decide (tc z8=sc z16))=true) ((z1 && !!decide (tk z8=sk z16))=true) (z1=true)) (decide (z13<(↑m:Int))) (Int.toNat z13) (Int.toNat z7) (z13<(↑m:Int)) ((0:Int)≤z13) (z7<(↑n:Int)) ((0:Int)≤z7)) (↑i:Int) (↑k:Int) (k+(1:Nat)) (M.nxF (fun j=>M.inB (M.Sc.mk (sk i) (sc i) (sq i) (sa i) (sb i)) (M.Sc.mk (tk j) (tc j) (tq j) (ta j) (tb j)))) (n=n∧∀ (k:Nat),k<n→sk k=sk k∧sc k=sc k∧sq k=sq k∧sa k=sa k∧sb k=sb k) (m=m∧∀ (k:Nat),k<m→tk k=tk k∧tc k=tc k∧tq k=tq k∧ta k=ta k∧tb k=tb k)
theorem q23b (n m:Nat) (sk sc sq sa sb:Nat→Int) (tk tc tq ta tb:Nat→Int) (i k0:Nat) (k:Nat):VL true [] [] YS.none Try.f23 0 [0,1,4,5,6,10,85,91] [] 2 (lp23b n m sk sc sq sa sb tk tc tq ta tb i k0) (k)=Rq23b n m sk sc sq sa sb tk tc tq ta tb i k0 k:=by kernel_rfl
theorem peq23b (n m:Nat) (sk sc sq sa sb:Nat→Int) (tk tc tq ta tb:Nat→Int) (i k0:Nat) (k:Nat):(lp23b n m sk sc sq sa sb tk tc tq ta tb i k0).pre (k)=(k≤m∧i<n∧n≤(100000:Nat)∧m≤(100000:Nat)):=by kernel_rfl
theorem bq23b (n m:Nat) (sk sc sq sa sb:Nat→Int) (tk tc tq ta tb:Nat→Int) (i k0:Nat) (k:Nat) (hp:k≤m∧i<n∧n≤(100000:Nat)∧m≤(100000:Nat)):Rq23b n m sk sc sq sa sb tk tc tq ta tb i k0 k:=by
 unfold Rq23b
 dsimp -iota -proj -eta -zeta only
 obtain ⟨h1,h2,h3,h4⟩:=id hp
 have r1:R64 ((k:Int)+1):=by unfold R64; omega
 simp only [Int.toNat_natCast,r1]
 by_cases hl:k<m
 ·have hl':(k:Int)<m:=by omega
  have h2':(i:Int)<n:=by omega
  cases hc:(fun j=>M.inB (M.Sc.mk (sk i) (sc i) (sq i) (sa i) (sb i)) ((fun i=>M.Sc.mk (tk i) (tc i) (tq i) (ta i) (tb i)) j)) k with
  | true =>
   rw [M.nxF_stop hl hc]
   simp only [M.inB,decide_eq_true_eq] at hc
   obtain ⟨c1,c2,c3,c4,c5⟩:=hc
   simp [hl,hl',h2,h2',c1,c2,c3]
   omega
  | false =>
   rw [M.nxF_step hl hc]
   simp only [M.inB,decide_eq_false_iff_not] at hc
   by_cases c1:tk k=sk i
   ·by_cases c2:tc k=sc i
    ·by_cases c3:tq k=sq i
     ·by_cases c4:sa i<ta k
      ·simp [hl,hl',h2,h2',h3,h4,c1,c2,c3,c4]
       omega
      ·have c5:tb k<sb i:=by
        refine Decidable.byContradiction fun c=>hc ⟨c1,c2,c3,by omega,by omega⟩
       simp [hl,hl',h2,h2',h3,h4,c1,c2,c3,c4,c5]
       omega
     ·simp [hl,hl',h2,h2',h3,h4,c1,c2,c3]
      omega
    ·simp [hl,hl',h2,h2',h3,h4,c1,c2]
     omega
   ·simp [hl,hl',h2,h2',h3,h4,c1]
    omega
 ·have e:k=m:=by omega
  subst e
  rw [M.nxF_end (Nat.le_refl _)]
  simp
theorem t23b (n m:Nat) (sk sc sq sa sb:Nat→Int) (tk tc tq ta tb:Nat→Int) (i k0:Nat) {F:Fence} (hF:FOK F) (Y:YEnv PP YS.none):∀ Q A H nx,loopT false Try.f23.ntmps 0 (lp23b n m sk sc sq sa sb tk tc tq ta tb i k0) (fun _ _ _=>k0) Q A H nx→WPS Y F Try.f23.ntmps 0 (.block 2 (blkAt 2 Try.f23)) Q A H nx :=
 loopW (E:=[]) (.nil) (O:=[]) (.nil) (ck:=true) (L:=[0,1,4,5,6,10,85,91]) (f:=Try.f23) (m:=0) (id:=2) (l:=(lp23b n m sk sc sq sa sb tk tc tq ta tb i k0)) (LI:=fun i=>[]) Y hF (by kernel_rfl) (fun _=>.nil) (by
  rintro k hp
  exact Hold.of (q23b n m sk sc sq sa sb tk tc tq ta tb i k0 k) (bq23b n m sk sc sq sa sb tk tc tq ta tb i k0 k ((peq23b n m sk sc sq sa sb tk tc tq ta tb i k0 k).mp hp)))
def lp23 (n m:Nat) (sk sc sq sa sb:Nat→Int) (tk tc tq ta tb:Nat→Int):LoopS where
 ι:=Nat × Nat
 β:=Bool
 pre s:=s.1≤n∧s.2≤m∧n≤100000∧m≤100000
 μ s:=n-s.1
 next s _ _ _:=(s.1+1,M.nxF (fun j=>M.inB (M.Sc.mk (sk s.1) (sc s.1) (sq s.1) (sa s.1) (sb s.1)) ((fun i=>M.Sc.mk (tk i) (tc i) (tq i) (ta i) (tb i)) j)) (m-s.2) s.2+1)
 out s:=M.inF (fun i=>M.Sc.mk (sk i) (sc i) (sq i) (sa i) (sb i)) (fun i=>M.Sc.mk (tk i) (tc i) (tq i) (ta i) (tb i)) m (n-s.1) s.1 s.2
 early q:=!q
 SA s:=[(0,.sl 5 n (fun j=>[SI (sk j),SI (sc j),SI (sq j),SI (sa j),SI (sb j)])),(1,.sl 5 m (fun j=>[SI (tk j),SI (tc j),SI (tq j),SI (ta j),SI (tb j)])),(4,.bool false),(5,SI s.2),(6,SI s.1)]
 SH _:=[]
 n0:=0
 NA _:=[]
 NH _:=[]
 n1:=0
 RA q:=[(4,.bool false)]
 RH _:=[]
def Rq23 (n m:Nat) (sk sc sq sa sb:Nat→Int) (tk tc tq ta tb:Nat→Int) (i k:Nat):Prop:=(fun (z5:Int) (z0 z4:Nat) (z1:Nat→Nat→Nat→Bool) (z2 z3 z6 z9:Prop)=>(fun (z7 z8:Bool)=>(decide (z5<(↑n:Int))=true→(k≤m∧i<n∧z6)∧(z2∧z3∧z9∧(↑k:Int)=(↑k:Int)∧z5=z5∧True)∧(z9→(z8=true→(!z7)=true∧z9∧True)∧(z8=false→R64 ((↑z0:Int)+(1:Int))∧R64 (z5+(1:Int))∧(z4≤n∧z0+(1:Nat)≤m∧z6)∧n-z4<n-i∧z1 (n-z4) z4 (z0+(1:Nat))=z7∧z2∧z3∧z9∧(↑z0:Int)+(1:Int)=(↑(z0+(1:Nat)):Int)∧z5+(1:Int)=(↑z4:Int)∧True))∧(false=true→(!z7)=true∧False∧True))∧(decide (z5<(↑n:Int))=false→(!z7)=false∧True)) (z1 (n-i) i k) (decide ((↑z0:Int)=(↑m:Int)))) (↑i:Int) (M.nxF (fun j=>M.inB (M.Sc.mk (sk i) (sc i) (sq i) (sa i) (sb i)) (M.Sc.mk (tk j) (tc j) (tq j) (ta j) (tb j))) (m-k) k) (i+(1:Nat)) (M.inF (fun i=>M.Sc.mk (sk i) (sc i) (sq i) (sa i) (sb i)) (fun i=>M.Sc.mk (tk i) (tc i) (tq i) (ta i) (tb i)) m) (n=n∧∀ (k:Nat),k<n→sk k=sk k∧sc k=sc k∧sq k=sq k∧sa k=sa k∧sb k=sb k) (m=m∧∀ (k:Nat),k<m→tk k=tk k∧tc k=tc k∧tq k=tq k∧ta k=ta k∧tb k=tb k) (n≤(100000:Nat)∧m≤(100000:Nat)) (false=false)
theorem q23 (n m:Nat) (sk sc sq sa sb:Nat→Int) (tk tc tq ta tb:Nat→Int) (i k:Nat):VL true [] [] YS.none Try.f23 0 [0,1,4,5,6,10,85,91] [(2,loopT false Try.f23.ntmps 0 (lp23b n m sk sc sq sa sb tk tc tq ta tb i k) (fun _ _ _=>k))] 0 (lp23 n m sk sc sq sa sb tk tc tq ta tb) ((i,k))=Rq23 n m sk sc sq sa sb tk tc tq ta tb i k:=by kernel_rfl
theorem peq23 (n m:Nat) (sk sc sq sa sb:Nat→Int) (tk tc tq ta tb:Nat→Int) (i k:Nat):(lp23 n m sk sc sq sa sb tk tc tq ta tb).pre ((i,k))=(i≤n∧k≤m∧n≤(100000:Nat)∧m≤(100000:Nat)):=by kernel_rfl
theorem bq23 (n m:Nat) (sk sc sq sa sb:Nat→Int) (tk tc tq ta tb:Nat→Int) (i k:Nat) (hp:i≤n∧k≤m∧n≤(100000:Nat)∧m≤(100000:Nat)):Rq23 n m sk sc sq sa sb tk tc tq ta tb i k:=by
 unfold Rq23
 dsimp -iota -proj -eta -zeta only
 obtain ⟨h1,h2,h3,h4⟩:=id hp
 have r1:R64 ((i:Int)+1):=by unfold R64; omega
 have hb:=M.nxF_le (c:=(fun j=>M.inB (M.Sc.mk (sk i) (sc i) (sq i) (sa i) (sb i)) ((fun i=>M.Sc.mk (tk i) (tc i) (tq i) (ta i) (tb i)) j))) (m:=m) (f:=m-k) (k:=k) rfl h2
 obtain ⟨y,hy⟩ : ∃ y,y=M.nxF (fun j=>M.inB (M.Sc.mk (sk i) (sc i) (sq i) (sa i) (sb i)) ((fun i=>M.Sc.mk (tk i) (tc i) (tq i) (ta i) (tb i)) j)) (m-k) k:=⟨_,rfl⟩
 have r2:R64 ((y:Int)+1):=by unfold R64; omega
 simp only [Int.toNat_natCast,← hy,r1,r2]
 rw [← hy] at hb
 by_cases hl:i<n
 ·have hl':(i:Int)<n:=by omega
  have e:=M.inF_step (s:=(fun i=>M.Sc.mk (sk i) (sc i) (sq i) (sa i) (sb i))) (t:=(fun i=>M.Sc.mk (tk i) (tc i) (tq i) (ta i) (tb i))) (m:=m) (k:=k) hl
  simp only [← hy] at e
  rw [e]
  by_cases hc:y=m
  ·have hc':(y:Int)=m:=by omega
   simp [hl,hl',hc,h2,h3,h4]
  ·have hc':¬ (y:Int)=m:=by omega
   simp [hl,hl',hc,hc',h2,h3,h4]
   omega
 ·have e:i=n:=by omega
  subst e
  rw [M.inF_end (Nat.le_refl _)]
  simp
theorem t23 (n m:Nat) (sk sc sq sa sb:Nat→Int) (tk tc tq ta tb:Nat→Int) {F:Fence} (hF:FOK F) (Y:YEnv PP YS.none):∀ Q A H nx,loopT false Try.f23.ntmps 0 (lp23 n m sk sc sq sa sb tk tc tq ta tb) (fun _ _ _=>((0:Nat),(0:Nat))) Q A H nx→WPS Y F Try.f23.ntmps 0 (.block 0 (blkAt 0 Try.f23)) Q A H nx :=
 loopW (E:=[]) (.nil) (O:=[]) (.nil) (ck:=true) (L:=[0,1,4,5,6,10,85,91]) (f:=Try.f23) (m:=0) (id:=0) (l:=(lp23 n m sk sc sq sa sb tk tc tq ta tb)) (LI:=fun | (i,k)=>[(2,loopT false Try.f23.ntmps 0 (lp23b n m sk sc sq sa sb tk tc tq ta tb i k) (fun _ _ _=>k))]) Y hF (by kernel_rfl) (fun | (i,k)=>.cons (by kernel_rfl) (t23b n m sk sc sq sa sb tk tc tq ta tb i k hF Y) (.nil)) (by
  rintro ⟨i,k⟩ hp
  exact Hold.of (q23 n m sk sc sq sa sb tk tc tq ta tb i k) (bq23 n m sk sc sq sa sb tk tc tq ta tb i k ((peq23 n m sk sc sq sa sb tk tc tq ta tb i k).mp hp)))
def e23:List SV→Option (List Prop × SV)
 | [.sl 5 n g_1,.sl 5 m g_2]=>some ([Row 5 n g_1,Row 5 m g_2,n≤100000,m≤100000],.bool (M.ins n m (fun i=>M.Sc.mk ((cI g_1 0) i) ((cI g_1 1) i) ((cI g_1 2) i) ((cI g_1 3) i) ((cI g_1 4) i)) (fun i=>M.Sc.mk ((cI g_2 0) i) ((cI g_2 1) i) ((cI g_2 2) i) ((cI g_2 3) i) ((cI g_2 4) i))))
 | _=>none
def Rr23 (n m:Nat) (sk sc sq sa sb:Nat→Int) (tk tc tq ta tb:Nat→Int):Prop:=(fun (z2:Nat) (z0 z1:Nat→M.Sc)=>(fun (z3:Bool)=>(z2≤n∧z2≤m∧n≤(100000:Nat)∧m≤(100000:Nat))∧((n=n∧∀ (k:Nat),k<n→sk k=sk k∧sc k=sc k∧sq k=sq k∧sa k=sa k∧sb k=sb k)∧(m=m∧∀ (k:Nat),k<m→tk k=tk k∧tc k=tc k∧tq k=tq k∧ta k=ta k∧tb k=tb k)∧false=false∧(0:Int)=(↑z2:Int)∧(0:Int)=(↑z2:Int)∧True)∧(z3=false→true=M.ins n m z0 z1)∧(z3=true→false=M.ins n m z0 z1)) (!M.inF z0 z1 m (n-z2) z2 z2)) (0:Nat) (fun i=>M.Sc.mk (sk i) (sc i) (sq i) (sa i) (sb i)) (fun i=>M.Sc.mk (tk i) (tc i) (tq i) (ta i) (tb i))
theorem r23 (n m:Nat) (sk sc sq sa sb:Nat→Int) (tk tc tq ta tb:Nat→Int):V true [] [] Try.f23 [0,1,4,5,6,10,85,91] [(0,loopT false Try.f23.ntmps 0 (lp23 n m sk sc sq sa sb tk tc tq ta tb) (fun _ _ _=>((0:Nat),(0:Nat))))] [.sl 5 n (fun k=>[SI (sk k),SI (sc k),SI (sq k),SI (sa k),SI (sb k)]),.sl 5 m (fun k=>[SI (tk k),SI (tc k),SI (tq k),SI (ta k),SI (tb k)])] (.bool (M.ins n m (fun i=>M.Sc.mk (sk i) (sc i) (sq i) (sa i) (sb i)) (fun i=>M.Sc.mk (tk i) (tc i) (tq i) (ta i) (tb i))))=Rr23 n m sk sc sq sa sb tk tc tq ta tb:=by kernel_rfl
theorem br23 (n m:Nat) (sk sc sq sa sb:Nat→Int) (tk tc tq ta tb:Nat→Int) (hp:(n≤100000)∧(m≤100000)∧AllP []):Rr23 n m sk sc sq sa sb tk tc tq ta tb:=by
 unfold Rr23
 dsimp -iota -proj -eta -zeta only
 obtain ⟨h1,h2,-⟩:=id hp
 unfold M.ins
 cases hq:M.inF (fun i=>M.Sc.mk (sk i) (sc i) (sq i) (sa i) (sb i)) (fun i=>M.Sc.mk (tk i) (tc i) (tq i) (ta i) (tb i)) m (n-0) 0 0 with
 | false=>simp [h1,h2,hq]
 | true=>simp [h1,h2,hq]
theorem s23:PureOK PP 23 e23:=by
 intro xs ps res h hp
 unfold e23 at h
 split at h
 ·rename_i n g_1 m g_2
  cases h
  simp only [AllP.cons] at hp
  obtain ⟨Hg_1,Hg_2,hp⟩:=hp
  exact Spec.args (enterH (Hold.of (r23 n m (cI g_1 0) (cI g_1 1) (cI g_1 2) (cI g_1 3) (cI g_1 4) (cI g_2 0) (cI g_2 1) (cI g_2 2) (cI g_2 3) (cI g_2 4)) (br23 n m (cI g_1 0) (cI g_1 1) (cI g_1 2) (cI g_1 3) (cI g_1 4) (cI g_2 0) (cI g_2 1) (cI g_2 2) (cI g_2 3) (cI g_2 4) hp)) (.nil) (.nil) (k:=23) (by kernel_rfl) (by kernel_rfl) (fun Y=>.cons (by kernel_rfl) (t23 n m (cI g_1 0) (cI g_1 1) (cI g_1 2) (cI g_1 3) (cI g_1 4) (cI g_2 0) (cI g_2 1) (cI g_2 2) (cI g_2 3) (cI g_2 4) FOK.wide Y) (.nil))) (.cons (.row Hg_1 fun _=>rfl) (.cons (.row Hg_2 fun _=>rfl) .nil))
 ·cases h
def e23t:List SV→Option (List Prop × SV)
 | [.sl 5 n g_1,.sl 5 m g_2]=>some ([Row 5 n g_1,Row 5 m g_2,n≤100000,m≤100000,M.ins n m (fun i=>M.Sc.mk (cI g_1 0 i) (cI g_1 1 i) (cI g_1 2 i) (cI g_1 3 i) (cI g_1 4 i)) (fun i=>M.Sc.mk (cI g_2 0 i) (cI g_2 1 i) (cI g_2 2 i) (cI g_2 3 i) (cI g_2 4 i))=true],.bool true)
 | _=>none
theorem s23t:PureOK PP 23 e23t:=by
 intro xs ps res h hp
 unfold e23t at h
 split at h
 ·rename_i n g_1 m g_2
  cases h
  simp only [AllP.cons] at hp
  obtain ⟨h1,h2,h3,h4,h5,-⟩:=hp
  have h6:=s23 [.sl 5 n g_1,.sl 5 m g_2] _ _ rfl (AllP.cons.2 ⟨h1,AllP.cons.2 ⟨h2,AllP.cons.2 ⟨h3,AllP.cons.2 ⟨h4,AllP.nil⟩⟩⟩⟩)
  rw [h5] at h6
  exact h6
 ·cases h
end Go.Proofs.Ytoncoofmijjgeaa.Sep
namespace Go.Proofs.Ytoncoofmijjgeaa.M
open Go
set_option linter.unusedVariables false
set_option linter.unusedSimpArgs false
theorem Lf.mono {a b : Int} {c c' : Int → Int} {u v : Int} {r r' : Bool × Int × Int} (h : Lf a b c u r) (h' : Lf a b c' v r') (hc : ∀ t, a ≤ t → t ≤ b → u ≤ c t → v ≤ c' t) (hr : r.1 = true) : r'.1 = true ∧ r'.2.1 ≤ r.2.1 ∧ r.2.2 ≤ r'.2.2 := by
 obtain ⟨a1, a2, a3, a4, a5⟩ := h.1 hr
 obtain ⟨b1, b2, b3⟩ := h'.2.2 _ a1 (by omega) (hc _ a1 (by omega) a4)
 obtain ⟨c1, c2, c3⟩ := h'.2.2 _ (by omega) a3 (hc _ (by omega) a3 a5)
 exact ⟨b1, b2, c3⟩
namespace Gd
variable {g g' : Gd} {x : Nat → Int} {s : Sc} {f f' : Int} {m m' ns : Nat} {P P' : Nat → Pk}
def Va (g : Gd) (ns : Nat) (x : Nat → Int) (m : Nat) (P : Nat → Pk) : Prop := g.ok ∧ g.all ns x ∧ ∀ i, i < m → (P i).Vd ns
theorem Va.lf (h : g.Va ns x m P) (hs : g.Sok s) : Lf s.a s.b (g.cnt x s m P) ((m : Int) - f) (g.lft x s m P f) :=
 lft_lf h.1 h.2.1 hs.2.1 h.2.2 hs.2.2.2.2.1 (by have := hs.2.2.2.1; omega) (by have := hs.2.2.2.2.2; omega)
theorem Ck.va {n : Nat} {S : Nat → Sc} (h : g.Ck ns x n S m P f) : g.Va ns x m P := ⟨h.1, h.2.2.1, h.2.2.2.2.2.1⟩
theorem one_in (h : g.Va ns x m P) (hs : g.Sok s) {z : Sc} (hz : g.one x m P f s = some z) : inB z s = true ∧ g.Sok z := by
 unfold one at hz
 split at hz
 ·rename_i h1
  split at hz
  ·rename_i h2
   obtain ⟨a1, a2, a3, -⟩ := (h.lf hs (f := f)).1 h2
   obtain ⟨s1, s2, s3, s4, s5, s6⟩ := hs
   cases hz
   refine ⟨?_, s1, s2, s3, by simp only; omega, a2, by simp only; omega⟩
   unfold inB
   simp only [decide_eq_true_eq, true_and]
   exact ⟨a1, a3⟩
  ·cases hz
 ·cases hz
  exact ⟨inB_refl _, hs⟩
theorem one_again (h : g.Va ns x m P) (hs : g.Sok s) {z : Sc} (hz : g.one x m P f s = some z) : g.one x m P f z = some z := by
 have hz0 := hz
 unfold one at hz
 split at hz
 ·rename_i h1
  split at hz
  ·rename_i h2
   have hl := h.lf hs (f := f)
   obtain ⟨a1, a2, a3, a4, a5⟩ := hl.1 h2
   have hzs := (one_in h hs hz0).2
   cases hz
   have hl' := h.lf hzs (f := f)
   have e : g.lft x ⟨s.k, s.c, s.q, (g.lft x s m P f).2.1, (g.lft x s m P f).2.2⟩ m P f = (true, (g.lft x s m P f).2.1, (g.lft x s m P f).2.2) := by
    refine hl'.uniq ⟨fun _ => ⟨Int.le_refl _, a2, Int.le_refl _, a4, a5⟩, fun e => (by cases e), fun t t1 t2 t3 => ⟨rfl, t1, t2⟩⟩
   unfold one
   rw [if_pos h1, e]
   simp
  ·cases hz
 ·rename_i h1
  cases hz
  exact hz0
theorem one_wide (h : g.Va ns x m P) (h' : g'.Va ns x m' P') (hs : g.Sok s) (hs' : g'.Sok s) (hc : ∀ t, s.a ≤ t → t ≤ s.b → (m : Int) - f ≤ g.cnt x s m P t → (m' : Int) - f' ≤ g'.cnt x s m' P' t) {z : Sc} (hz : g.one x m P f s = some z) : ∃ y, g'.one x m' P' f' s = some y ∧ inB z y = true := by
 unfold one at hz
 split at hz
 ·rename_i h1
  split at hz
  ·rename_i h2
   obtain ⟨b1, b2, b3⟩ := (h.lf hs (f := f)).mono (h'.lf hs' (f := f')) hc h2
   cases hz
   unfold one
   rw [if_pos h1, if_pos b1]
   refine ⟨_, rfl, ?_⟩
   unfold inB
   simp only [decide_eq_true_eq, true_and]
   exact ⟨b2, b3⟩
  ·cases hz
 ·rename_i h1
  cases hz
  refine ⟨s, ?_, inB_refl _⟩
  unfold one
  rw [if_neg h1]
theorem lft_same (h : g.Va ns x m P) (h' : g.Va ns x m P') (hs : g.Sok s) (hc : ∀ t, g.cnt x s m P t = g.cnt x s m P' t) : g.lft x s m P f = g.lft x s m P' f :=
 ((h.lf hs (f := f)).congr (fun t _ _ => hc t)).uniq (h'.lf hs)
theorem leL_fm {S : Nat → Sc} : ∀ n, g.leL x S m P f n = fmL (fun i => g.one x m P f (S i)) n
 | 0 => rfl
 | n + 1 => by unfold leL fmL; rw [leL_fm n]; cases g.one x m P f (S n) <;> rfl
theorem leN_fm {S : Nat → Sc} {n : Nat} : g.leN x S m P f n = fmN (fun i => g.one x m P f (S i)) n := by unfold leN fmN; rw [leL_fm]
theorem leR_fm {S : Nat → Sc} {n : Nat} : g.leR x S m P f n = fmR (fun i => g.one x m P f (S i)) n := by unfold leR fmR; rw [leL_fm]
theorem le_in {S : Nat → Sc} {n : Nat} (h : g.Va ns x m P) (hs : ∀ i, i < n → g.Sok (S i)) : ins (g.leN x S m P f n) n (g.leR x S m P f n) S = true := by
 rw [leN_fm, leR_fm]
 exact fm_in fun i hi z hz => (one_in h (hs i hi) hz).1
theorem le_wide {S : Nat → Sc} {n : Nat} (h : g.Va ns x m P) (h' : g'.Va ns x m' P') (hs : ∀ i, i < n → g.Sok (S i) ∧ g'.Sok (S i)) (hc : ∀ i, i < n → ∀ t, (S i).a ≤ t → t ≤ (S i).b → (m : Int) - f ≤ g.cnt x (S i) m P t → (m' : Int) - f' ≤ g'.cnt x (S i) m' P' t) :
  ins (g.leN x S m P f n) (g'.leN x S m' P' f' n) (g.leR x S m P f n) (g'.leR x S m' P' f' n) = true := by
 rw [leN_fm, leR_fm, leN_fm, leR_fm]
 exact fm_ins fun i hi z hz => one_wide h h' (hs i hi).1 (hs i hi).2 (hc i hi) hz
end Gd
theorem fmL_all_of {o : Nat → Option Sc} {s : Nat → Sc} : ∀ {n : Nat}, (∀ i, i < n → o i = some (s i)) → fmL o n = (List.range n).map s
 | 0, _ => rfl
 | n + 1, h => by unfold fmL; rw [h n (by omega), fmL_all_of fun i hi => h i (by omega), List.range_succ, List.map_append]; rfl
theorem fm_some {o : Nat → Option Sc} : ∀ {n k : Nat}, k < fmN o n → ∃ i, i < n ∧ o i = some (fmR o n k)
 | 0, k, h => by unfold fmN fmL at h; simp at h
 | n + 1, k, h => by
  cases e : o n with
  | none =>
   obtain ⟨e1, e2⟩ := fm_stay e
   rw [e1] at h
   obtain ⟨i, hi, h2⟩ := fm_some h
   exact ⟨i, by omega, by rw [e2]; exact h2⟩
  | some z =>
   obtain ⟨e1, e2⟩ := fm_step e
   rw [e1] at h
   rw [e2 k h]
   split
   ·rename_i c
    obtain ⟨i, hi, h2⟩ := fm_some c
    exact ⟨i, by omega, h2⟩
   ·exact ⟨n, by omega, e⟩
namespace Gd
variable {g g' : Gd} {x : Nat → Int} {s : Sc} {f f' : Int} {m m' ns : Nat} {P P' : Nat → Pk}
theorem le_again {S : Nat → Sc} {n : Nat} (h : g.Va ns x m P) (hs : ∀ i, i < n → g.Sok (S i)) : (g.leN x (g.leR x S m P f n) m P f (g.leN x S m P f n) = g.leN x S m P f n ∧ ∀ k, k < g.leN x S m P f n → g.leR x (g.leR x S m P f n) m P f (g.leN x S m P f n) k = g.leR x S m P f n k) ∧ ∀ k, k < g.leN x S m P f n → g.Sok (g.leR x S m P f n k) := by
 have key : ∀ k, k < g.leN x S m P f n → g.one x m P f (g.leR x S m P f n k) = some (g.leR x S m P f n k) ∧ g.Sok (g.leR x S m P f n k) := fun k hk => by
  rw [leN_fm] at hk
  rw [leR_fm]
  obtain ⟨i, hi, hz⟩ := fm_some hk
  exact ⟨one_again h (hs i hi) hz, (one_in h (hs i hi) hz).2⟩
 refine ⟨?_, fun k hk => (key k hk).2⟩
 generalize g.leN x S m P f n = N at *
 generalize g.leR x S m P f n = R at *
 rw [leN_fm, leR_fm]
 unfold fmN fmR
 rw [fmL_all_of fun i hi => (key i hi).1]
 exact ⟨by simp, fun k hk => scR_row hk⟩
theorem le_same {S : Nat → Sc} {n : Nat} (h : g.Va ns x m P) (h' : g.Va ns x m P') (hs : ∀ i, i < n → g.Sok (S i)) (hc : ∀ i, i < n → ∀ t, g.cnt x (S i) m P t = g.cnt x (S i) m P' t) : ∀ {k : Nat}, k ≤ n → g.leL x S m P f k = g.leL x S m P' f k
 | 0, _ => rfl
 | k + 1, hk => by
  have e : g.one x m P f (S k) = g.one x m P' f (S k) := by
   unfold one
   rw [lft_same h h' (hs k (by omega)) (hc k (by omega))]
  unfold leL
  rw [e, le_same h h' hs hc (k := k) (by omega)]
theorem cnt_more (hP : ∀ i, i < m → P' i = P i) {t : Int} : ∀ j : Nat, g.cnt x s (m + j) P' t ≤ g.cnt x s m P t + j
 | 0 => by
  unfold cnt
  rw [show m + 0 = m from rfl, sumN_congr (ψ := fun i => if g.alw x s (P i) t = true then 1 else 0) fun k hk => by rw [hP k hk]]
  omega
 | j + 1 => by
  have := cnt_more hP (t := t) j
  unfold cnt at *
  rw [show m + (j + 1) = (m + j) + 1 by omega]
  conv => lhs; unfold sumN
  split <;> omega
theorem cnt_sw (h : Sw 0 m P P') (t : Int) : g.cnt x s m P' t = g.cnt x s m P t := h.sum (φ := fun p => if g.alw x s p t = true then 1 else 0)
def Wd (g g' : Gd) : Prop := g'.w = g.w ∧ g'.h = g.h ∧ g'.s = g.s ∧ g'.v0 ≤ g.v0 ∧ g.v1 ≤ g'.v1 ∧ g'.d0 ≤ g.d0 ∧ g.d1 ≤ g'.d1 ∧ g.r ≤ g'.r
theorem Wd.bounds (hw : g.Wd g') (hk : g.ok) (hk' : g'.ok) {a b : Int} (ha : g.cell a) (hb : g.cell b) : g'.T0 a b ≤ g.T0 a b ∧ g.T1 a b ≤ g'.T1 a b ∧ ∀ q, g'.S0 q a b ≤ g.S0 q a b ∧ g.S1 q a b ≤ g'.S1 q a b := by
 obtain ⟨w1, w2, w3, w4, w5, w6, w7, w8⟩ := hw
 have ha' : g'.cell a := by unfold cell at *; rw [w1, w2]; exact ha
 have hb' : g'.cell b := by unfold cell at *; rw [w1, w2]; exact hb
 obtain ⟨-, -, -, -, n1, n2, n3, n4⟩ := near_far hk ha hb
 obtain ⟨-, -, -, -, m1, m2, m3, m4⟩ := near_far hk' ha' hb'
 have ex : g'.dx a b = g.dx a b := by unfold dx; rw [w1]
 have ey : g'.dy a b = g.dy a b := by unfold dy; rw [w1]
 obtain ⟨k1, k2, k3, ⟨k4, k5, k6⟩, ⟨k7, k8, k9⟩, k10⟩ := hk
 obtain ⟨l1, l2, l3, ⟨l4, l5, l6⟩, ⟨l7, l8, l9⟩, l10⟩ := hk'
 have hn : g'.near a b ≤ g.near a b := by
  unfold near
  rw [ex, ey, w3]
  have := (sq_bd l7 w6).2
  omega
 have hf : g.far a b ≤ g'.far a b := by
  unfold far
  rw [ex, ey, w3]
  have := (sq_bd (x := g.d1) (y := g'.d1) (by omega) w7).2
  omega
 have d0 : g'.D0 a b ≤ g.D0 a b := by
  unfold D0
  have := root_mono (n := g'.near a b + 1) (m := g.near a b + 1) (by omega) (by omega)
  omega
 have d1 : g.D1 a b ≤ g'.D1 a b := by
  unfold D1
  have := root_mono (n := g.far a b) (m := g'.far a b) hf (by omega)
  omega
 have hk : g.ok := ⟨k1, k2, k3, ⟨k4, k5, k6⟩, ⟨k7, k8, k9⟩, k10⟩
 have hk' : g'.ok := ⟨l1, l2, l3, ⟨l4, l5, l6⟩, ⟨l7, l8, l9⟩, l10⟩
 obtain ⟨e1, e2, e3, e4⟩ := D_bd hk ha hb
 obtain ⟨f1, f2, f3, f4⟩ := D_bd hk' ha' hb'
 refine ⟨?_, ?_, fun q => ?_⟩
 ·unfold T0
  have h1 : 1000 * g'.D0 a b / g'.v1 ≤ 1000 * g'.D0 a b / g.v1 := by
   rw [Int.le_ediv_iff_mul_le (by omega)]
   have h3 : 1000 * g'.D0 a b / g'.v1 * g.v1 ≤ 1000 * g'.D0 a b / g'.v1 * g'.v1 := Int.mul_le_mul_of_nonneg_left w5 (Int.ediv_nonneg (by omega) (by omega))
   have h4 := Int.ediv_mul_le (1000 * g'.D0 a b) (show g'.v1 ≠ 0 by omega)
   omega
  have h2 : 1000 * g'.D0 a b / g.v1 ≤ 1000 * g.D0 a b / g.v1 := Int.ediv_le_ediv (by omega) (by omega)
  omega
 ·unfold T1
  have h1 : (1000 * g.D1 a b - 1) / g.v0 ≤ (1000 * g.D1 a b - 1) / g'.v0 := by
   rw [Int.le_ediv_iff_mul_le (by omega)]
   have h3 : (1000 * g.D1 a b - 1) / g.v0 * g'.v0 ≤ (1000 * g.D1 a b - 1) / g.v0 * g.v0 := Int.mul_le_mul_of_nonneg_left w4 (Int.ediv_nonneg (by omega) (by omega))
   have h4 := Int.ediv_mul_le (1000 * g.D1 a b - 1) (show g.v0 ≠ 0 by omega)
   omega
  have h2 : (1000 * g.D1 a b - 1) / g'.v0 ≤ (1000 * g'.D1 a b - 1) / g'.v0 := Int.ediv_le_ediv (by omega) (by omega)
  omega
 ·unfold S0 S1
  have h1 := fall_mono (d := g.D1 a b) (e := g'.D1 a b) (by omega) d1
  have h2 := fall_mono (d := g'.D0 a b) (e := g.D0 a b) f1 d0
  omega
theorem Wd.alw (hw : g.Wd g') (hk : g.ok) (hk' : g'.ok) {p : Pk} (hs : g.cell s.c) (hx : g.cell (x p.s.toNat)) {t : Int} (h : g.alw x s p t = true) : g'.alw x s p t = true := by
 obtain ⟨a1, a2, a3⟩ := hw.bounds hk hk' hs hx
 obtain ⟨a4, a5⟩ := a3 s.q
 unfold Gd.alw at h ⊢
 split at h
 ·rename_i c
  rw [if_pos c]
  simp only [decide_eq_true_eq] at h ⊢
  omega
 ·rename_i c
  rw [if_neg c]
  split at h
  ·rename_i c2
   rw [if_pos c2]
   simp only [decide_eq_true_eq] at h ⊢
   omega
  ·rename_i c2
   rw [if_neg c2]
   simp only [decide_eq_true_eq] at h ⊢
   omega
end Gd
end Go.Proofs.Ytoncoofmijjgeaa.M
namespace Go.Proofs.Ytoncoofmijjgeaa.M
namespace Gd
def lN (g:Gd) (ns:Nat) (x:Nat→Int) (n:Nat) (S:Nat→Sc) (m:Nat) (P:Nat→Pk) (f:Int):Nat:=if g.ckE ns x n S m P f=0 then g.leN x S m P f n else 0
def rnB (g:Gd) (ns:Nat) (x:Nat→Int) (n:Nat) (S:Nat→Sc) (m:Nat) (P:Nat→Pk) (f:Int):Bool:=decide ((ns≤70∧n≤300∧m≤70∧n*m≤3000)∧g.ckE ns x n S m P f=0)
def rnN (g:Gd) (ns:Nat) (x:Nat→Int) (n:Nat) (S:Nat→Sc) (m:Nat) (P:Nat→Pk) (f:Int):Nat:=if g.rnB ns x n S m P f=true then g.leN x S m P f n else 0
end Gd
end Go.Proofs.Ytoncoofmijjgeaa.M
namespace Go.Proofs.Ytoncoofmijjgeaa.Sep
open Go
set_option linter.unusedVariables false
set_option linter.unusedSimpArgs false
def e18s:List SV→Option (List Prop × SV)
 | [.agg [.int .i64 g_w,.int .i64 g_h,.int .i64 g_s,.int .i64 g_v0,.int .i64 g_v1,.int .i64 g_d0,.int .i64 g_d1,.int .i64 g_r],.sl 1 ns g_1,.sl 5 n g_2,.sl 6 m g_3,.int .i64 f]=>some ([Row 1 ns g_1,Row 5 n g_2,Row 6 m g_3,ns≤100000,n≤100000,m≤100000],.tup [.sl 5 (M.Gd.lN (M.Gd.mk g_w g_h g_s g_v0 g_v1 g_d0 g_d1 g_r) ns (cI g_1 0) n (fun i=>M.Sc.mk (cI g_2 0 i) (cI g_2 1 i) (cI g_2 2 i) (cI g_2 3 i) (cI g_2 4 i)) m (fun i=>M.Pk.mk (cI g_3 0 i) (cI g_3 1 i) (cI g_3 2 i) (cI g_3 3 i) (cI g_3 4 i) (cI g_3 5 i)) f) (fun k=>[SI (M.Gd.leR (M.Gd.mk g_w g_h g_s g_v0 g_v1 g_d0 g_d1 g_r) (cI g_1 0) (fun i=>M.Sc.mk (cI g_2 0 i) (cI g_2 1 i) (cI g_2 2 i) (cI g_2 3 i) (cI g_2 4 i)) m (fun i=>M.Pk.mk (cI g_3 0 i) (cI g_3 1 i) (cI g_3 2 i) (cI g_3 3 i) (cI g_3 4 i) (cI g_3 5 i)) f n k).k,SI (M.Gd.leR (M.Gd.mk g_w g_h g_s g_v0 g_v1 g_d0 g_d1 g_r) (cI g_1 0) (fun i=>M.Sc.mk (cI g_2 0 i) (cI g_2 1 i) (cI g_2 2 i) (cI g_2 3 i) (cI g_2 4 i)) m (fun i=>M.Pk.mk (cI g_3 0 i) (cI g_3 1 i) (cI g_3 2 i) (cI g_3 3 i) (cI g_3 4 i) (cI g_3 5 i)) f n k).c,SI (M.Gd.leR (M.Gd.mk g_w g_h g_s g_v0 g_v1 g_d0 g_d1 g_r) (cI g_1 0) (fun i=>M.Sc.mk (cI g_2 0 i) (cI g_2 1 i) (cI g_2 2 i) (cI g_2 3 i) (cI g_2 4 i)) m (fun i=>M.Pk.mk (cI g_3 0 i) (cI g_3 1 i) (cI g_3 2 i) (cI g_3 3 i) (cI g_3 4 i) (cI g_3 5 i)) f n k).q,SI (M.Gd.leR (M.Gd.mk g_w g_h g_s g_v0 g_v1 g_d0 g_d1 g_r) (cI g_1 0) (fun i=>M.Sc.mk (cI g_2 0 i) (cI g_2 1 i) (cI g_2 2 i) (cI g_2 3 i) (cI g_2 4 i)) m (fun i=>M.Pk.mk (cI g_3 0 i) (cI g_3 1 i) (cI g_3 2 i) (cI g_3 3 i) (cI g_3 4 i) (cI g_3 5 i)) f n k).a,SI (M.Gd.leR (M.Gd.mk g_w g_h g_s g_v0 g_v1 g_d0 g_d1 g_r) (cI g_1 0) (fun i=>M.Sc.mk (cI g_2 0 i) (cI g_2 1 i) (cI g_2 2 i) (cI g_2 3 i) (cI g_2 4 i)) m (fun i=>M.Pk.mk (cI g_3 0 i) (cI g_3 1 i) (cI g_3 2 i) (cI g_3 3 i) (cI g_3 4 i) (cI g_3 5 i)) f n k).b]),SI (M.Gd.ckE (M.Gd.mk g_w g_h g_s g_v0 g_v1 g_d0 g_d1 g_r) ns (cI g_1 0) n (fun i=>M.Sc.mk (cI g_2 0 i) (cI g_2 1 i) (cI g_2 2 i) (cI g_2 3 i) (cI g_2 4 i)) m (fun i=>M.Pk.mk (cI g_3 0 i) (cI g_3 1 i) (cI g_3 2 i) (cI g_3 3 i) (cI g_3 4 i) (cI g_3 5 i)) f)])
 | _=>none
theorem s18s:PureOK PP 18 e18s:=by
 intro xs ps res h hp
 unfold e18s at h
 split at h
 ·rename_i g_w g_h g_s g_v0 g_v1 g_d0 g_d1 g_r ns g_1 n g_2 m g_3 f
  cases h
  simp only [AllP.cons] at hp
  obtain ⟨Hg_1,Hg_2,Hg_3,hp⟩:=hp
  have h6:=s18 [.agg [.int .i64 g_w,.int .i64 g_h,.int .i64 g_s,.int .i64 g_v0,.int .i64 g_v1,.int .i64 g_d0,.int .i64 g_d1,.int .i64 g_r],.sl 1 ns g_1,.sl 5 n g_2,.sl 6 m g_3,.int .i64 f] _ _ rfl (AllP.cons.2 ⟨Hg_1,(AllP.cons.2 ⟨Hg_2,(AllP.cons.2 ⟨Hg_3,(AllP.cons.2 ⟨(hp.1),(AllP.cons.2 ⟨(hp.2.1),(AllP.cons.2 ⟨(hp.2.2.1),AllP.nil⟩)⟩)⟩)⟩)⟩)⟩)
  exact h6
 ·cases h
def e22:List SV→Option (List Prop × SV)
 | [.agg [.int .i64 g_w,.int .i64 g_h,.int .i64 g_s,.int .i64 g_v0,.int .i64 g_v1,.int .i64 g_d0,.int .i64 g_d1,.int .i64 g_r,.sl 1 ns g_1,.sl 5 n g_2,.sl 6 m g_3,.int .i64 f]]=>some ([Row 1 ns g_1,Row 5 n g_2,Row 6 m g_3],.tup [.sl 5 (M.Gd.rnN (M.Gd.mk g_w g_h g_s g_v0 g_v1 g_d0 g_d1 g_r) ns (cI g_1 0) n (fun i=>M.Sc.mk (cI g_2 0 i) (cI g_2 1 i) (cI g_2 2 i) (cI g_2 3 i) (cI g_2 4 i)) m (fun i=>M.Pk.mk (cI g_3 0 i) (cI g_3 1 i) (cI g_3 2 i) (cI g_3 3 i) (cI g_3 4 i) (cI g_3 5 i)) f) (fun k=>[SI (M.Gd.leR (M.Gd.mk g_w g_h g_s g_v0 g_v1 g_d0 g_d1 g_r) (cI g_1 0) (fun i=>M.Sc.mk (cI g_2 0 i) (cI g_2 1 i) (cI g_2 2 i) (cI g_2 3 i) (cI g_2 4 i)) m (fun i=>M.Pk.mk (cI g_3 0 i) (cI g_3 1 i) (cI g_3 2 i) (cI g_3 3 i) (cI g_3 4 i) (cI g_3 5 i)) f n k).k,SI (M.Gd.leR (M.Gd.mk g_w g_h g_s g_v0 g_v1 g_d0 g_d1 g_r) (cI g_1 0) (fun i=>M.Sc.mk (cI g_2 0 i) (cI g_2 1 i) (cI g_2 2 i) (cI g_2 3 i) (cI g_2 4 i)) m (fun i=>M.Pk.mk (cI g_3 0 i) (cI g_3 1 i) (cI g_3 2 i) (cI g_3 3 i) (cI g_3 4 i) (cI g_3 5 i)) f n k).c,SI (M.Gd.leR (M.Gd.mk g_w g_h g_s g_v0 g_v1 g_d0 g_d1 g_r) (cI g_1 0) (fun i=>M.Sc.mk (cI g_2 0 i) (cI g_2 1 i) (cI g_2 2 i) (cI g_2 3 i) (cI g_2 4 i)) m (fun i=>M.Pk.mk (cI g_3 0 i) (cI g_3 1 i) (cI g_3 2 i) (cI g_3 3 i) (cI g_3 4 i) (cI g_3 5 i)) f n k).q,SI (M.Gd.leR (M.Gd.mk g_w g_h g_s g_v0 g_v1 g_d0 g_d1 g_r) (cI g_1 0) (fun i=>M.Sc.mk (cI g_2 0 i) (cI g_2 1 i) (cI g_2 2 i) (cI g_2 3 i) (cI g_2 4 i)) m (fun i=>M.Pk.mk (cI g_3 0 i) (cI g_3 1 i) (cI g_3 2 i) (cI g_3 3 i) (cI g_3 4 i) (cI g_3 5 i)) f n k).a,SI (M.Gd.leR (M.Gd.mk g_w g_h g_s g_v0 g_v1 g_d0 g_d1 g_r) (cI g_1 0) (fun i=>M.Sc.mk (cI g_2 0 i) (cI g_2 1 i) (cI g_2 2 i) (cI g_2 3 i) (cI g_2 4 i)) m (fun i=>M.Pk.mk (cI g_3 0 i) (cI g_3 1 i) (cI g_3 2 i) (cI g_3 3 i) (cI g_3 4 i) (cI g_3 5 i)) f n k).b]),.bool (M.Gd.rnB (M.Gd.mk g_w g_h g_s g_v0 g_v1 g_d0 g_d1 g_r) ns (cI g_1 0) n (fun i=>M.Sc.mk (cI g_2 0 i) (cI g_2 1 i) (cI g_2 2 i) (cI g_2 3 i) (cI g_2 4 i)) m (fun i=>M.Pk.mk (cI g_3 0 i) (cI g_3 1 i) (cI g_3 2 i) (cI g_3 3 i) (cI g_3 4 i) (cI g_3 5 i)) f)])
 | _=>none
def Rr22 (g:M.Gd) (ns:Nat) (x:Nat→Int) (n:Nat) (S:Nat→M.Sc) (m:Nat) (P:Nat→M.Pk) (f:Int):Prop:=(fun (z3:Bool) (z0:Nat→M.Sc) (z1 z2 z4:Prop)=>z4∧z2∧z1∧(z3=true→M.Gd.rnN g ns x n S m P f=(0:Nat)∧false=M.Gd.rnB g ns x n S m P f)∧(z3=false→z4∧z2∧z1∧ns≤(100000:Nat)∧n≤(100000:Nat)∧m≤(100000:Nat)∧(M.Gd.lN g ns x n S m P f=M.Gd.rnN g ns x n S m P f∧∀ (k:Nat),k<M.Gd.lN g ns x n S m P f→(z0 k).k=(z0 k).k∧(z0 k).c=(z0 k).c∧(z0 k).q=(z0 k).q∧(z0 k).a=(z0 k).a∧(z0 k).b=(z0 k).b)∧decide (M.Gd.ckE g ns x n S m P f=(0:Int))=M.Gd.rnB g ns x n S m P f)) (!decide (ns≤(70:Nat)∧n≤(300:Nat)∧m≤(70:Nat)∧n*m≤(3000:Nat))) (M.Gd.leR g x S m P f n) (∀ (k:Nat),k<m→(P k).k=(P k).k∧(P k).s=(P k).s∧(P k).t0=(P k).t0∧(P k).t1=(P k).t1∧(P k).l0=(P k).l0∧(P k).l1=(P k).l1) (∀ (k:Nat),k<n→(S k).k=(S k).k∧(S k).c=(S k).c∧(S k).q=(S k).q∧(S k).a=(S k).a∧(S k).b=(S k).b) (∀ (k:Nat),k<ns→x k=x k)
theorem r22 (g:M.Gd) (ns:Nat) (x:Nat→Int) (n:Nat) (S:Nat→M.Sc) (m:Nat) (P:Nat→M.Pk) (f:Int):V true [] [(16,pureE e16),(18,pureE e18s)] Try.f22 [0,1,2,3,4,5,13] [] [.agg [SI (M.Gd.w g),SI (M.Gd.h g),SI (M.Gd.s g),SI (M.Gd.v0 g),SI (M.Gd.v1 g),SI (M.Gd.d0 g),SI (M.Gd.d1 g),SI (M.Gd.r g),.sl 1 ns (fun k=>[SI (x k)]),.sl 5 n (fun k=>[SI (M.Sc.k (S k)),SI (M.Sc.c (S k)),SI (M.Sc.q (S k)),SI (M.Sc.a (S k)),SI (M.Sc.b (S k))]),.sl 6 m (fun k=>[SI (M.Pk.k (P k)),SI (M.Pk.s (P k)),SI (M.Pk.t0 (P k)),SI (M.Pk.t1 (P k)),SI (M.Pk.l0 (P k)),SI (M.Pk.l1 (P k))]),SI f]] (.tup [.sl 5 (M.Gd.rnN g ns x n S m P f) (fun k=>[SI (M.Gd.leR g x S m P f n k).k,SI (M.Gd.leR g x S m P f n k).c,SI (M.Gd.leR g x S m P f n k).q,SI (M.Gd.leR g x S m P f n k).a,SI (M.Gd.leR g x S m P f n k).b]),.bool (M.Gd.rnB g ns x n S m P f)])=Rr22 g ns x n S m P f:=by kernel_rfl
theorem br22 (g:M.Gd) (ns:Nat) (x:Nat→Int) (n:Nat) (S:Nat→M.Sc) (m:Nat) (P:Nat→M.Pk) (f:Int)  : Rr22 g ns x n S m P f:=by
 unfold Rr22
 dsimp -iota -proj -eta -zeta only
 unfold M.Gd.rnN M.Gd.rnB M.Gd.lN
 by_cases h:ns≤70∧n≤300∧m≤70∧n*m≤3000
 ·by_cases e:M.Gd.ckE g ns x n S m P f=0
  ·simp [h,e]
   omega
  ·simp [h,e]
   omega
 ·simp [h]
theorem s22:PureOK PP 22 e22:=by
 intro xs ps res h hp
 unfold e22 at h
 split at h
 ·rename_i g_w g_h g_s g_v0 g_v1 g_d0 g_d1 g_r ns g_1 n g_2 m g_3 f
  cases h
  simp only [AllP.cons] at hp
  obtain ⟨Hg_1,Hg_2,Hg_3,hp⟩:=hp
  exact Spec.args (enterH (Hold.of (r22 (M.Gd.mk g_w g_h g_s g_v0 g_v1 g_d0 g_d1 g_r) ns (cI g_1 0) n (fun i=>M.Sc.mk (cI g_2 0 i) (cI g_2 1 i) (cI g_2 2 i) (cI g_2 3 i) (cI g_2 4 i)) m (fun i=>M.Pk.mk (cI g_3 0 i) (cI g_3 1 i) (cI g_3 2 i) (cI g_3 3 i) (cI g_3 4 i) (cI g_3 5 i)) f) (br22 (M.Gd.mk g_w g_h g_s g_v0 g_v1 g_d0 g_d1 g_r) ns (cI g_1 0) n (fun i=>M.Sc.mk (cI g_2 0 i) (cI g_2 1 i) (cI g_2 2 i) (cI g_2 3 i) (cI g_2 4 i)) m (fun i=>M.Pk.mk (cI g_3 0 i) (cI g_3 1 i) (cI g_3 2 i) (cI g_3 3 i) (cI g_3 4 i) (cI g_3 5 i)) f )) (.nil) (.cons (pureE_ok s16) (.cons (pureE_ok s18s) (.nil))) (k:=22) (by kernel_rfl) (by kernel_rfl) (fun _=>.nil)) (.cons (.agg (.cons (.refl _) (.cons (.refl _) (.cons (.refl _) (.cons (.refl _) (.cons (.refl _) (.cons (.refl _) (.cons (.refl _) (.cons (.refl _) (.cons (.row Hg_1 fun _=>rfl) (.cons (.row Hg_2 fun _=>rfl) (.cons (.row Hg_3 fun _=>rfl) (.cons (.refl _) .nil))))))))))))) .nil)
 ·cases h
def e22t:List SV→Option (List Prop × SV)
 | [.agg [.int .i64 g_w,.int .i64 g_h,.int .i64 g_s,.int .i64 g_v0,.int .i64 g_v1,.int .i64 g_d0,.int .i64 g_d1,.int .i64 g_r,.sl 1 ns g_1,.sl 5 n g_2,.sl 6 m g_3,.int .i64 f]]=>some ([Row 1 ns g_1,Row 5 n g_2,Row 6 m g_3,M.Gd.rnB (M.Gd.mk g_w g_h g_s g_v0 g_v1 g_d0 g_d1 g_r) ns (cI g_1 0) n (fun i=>M.Sc.mk (cI g_2 0 i) (cI g_2 1 i) (cI g_2 2 i) (cI g_2 3 i) (cI g_2 4 i)) m (fun i=>M.Pk.mk (cI g_3 0 i) (cI g_3 1 i) (cI g_3 2 i) (cI g_3 3 i) (cI g_3 4 i) (cI g_3 5 i)) f=true],.tup [.sl 5 (M.Gd.leN (M.Gd.mk g_w g_h g_s g_v0 g_v1 g_d0 g_d1 g_r) (cI g_1 0) (fun i=>M.Sc.mk (cI g_2 0 i) (cI g_2 1 i) (cI g_2 2 i) (cI g_2 3 i) (cI g_2 4 i)) m (fun i=>M.Pk.mk (cI g_3 0 i) (cI g_3 1 i) (cI g_3 2 i) (cI g_3 3 i) (cI g_3 4 i) (cI g_3 5 i)) f n) (fun k=>[SI (M.Gd.leR (M.Gd.mk g_w g_h g_s g_v0 g_v1 g_d0 g_d1 g_r) (cI g_1 0) (fun i=>M.Sc.mk (cI g_2 0 i) (cI g_2 1 i) (cI g_2 2 i) (cI g_2 3 i) (cI g_2 4 i)) m (fun i=>M.Pk.mk (cI g_3 0 i) (cI g_3 1 i) (cI g_3 2 i) (cI g_3 3 i) (cI g_3 4 i) (cI g_3 5 i)) f n k).k,SI (M.Gd.leR (M.Gd.mk g_w g_h g_s g_v0 g_v1 g_d0 g_d1 g_r) (cI g_1 0) (fun i=>M.Sc.mk (cI g_2 0 i) (cI g_2 1 i) (cI g_2 2 i) (cI g_2 3 i) (cI g_2 4 i)) m (fun i=>M.Pk.mk (cI g_3 0 i) (cI g_3 1 i) (cI g_3 2 i) (cI g_3 3 i) (cI g_3 4 i) (cI g_3 5 i)) f n k).c,SI (M.Gd.leR (M.Gd.mk g_w g_h g_s g_v0 g_v1 g_d0 g_d1 g_r) (cI g_1 0) (fun i=>M.Sc.mk (cI g_2 0 i) (cI g_2 1 i) (cI g_2 2 i) (cI g_2 3 i) (cI g_2 4 i)) m (fun i=>M.Pk.mk (cI g_3 0 i) (cI g_3 1 i) (cI g_3 2 i) (cI g_3 3 i) (cI g_3 4 i) (cI g_3 5 i)) f n k).q,SI (M.Gd.leR (M.Gd.mk g_w g_h g_s g_v0 g_v1 g_d0 g_d1 g_r) (cI g_1 0) (fun i=>M.Sc.mk (cI g_2 0 i) (cI g_2 1 i) (cI g_2 2 i) (cI g_2 3 i) (cI g_2 4 i)) m (fun i=>M.Pk.mk (cI g_3 0 i) (cI g_3 1 i) (cI g_3 2 i) (cI g_3 3 i) (cI g_3 4 i) (cI g_3 5 i)) f n k).a,SI (M.Gd.leR (M.Gd.mk g_w g_h g_s g_v0 g_v1 g_d0 g_d1 g_r) (cI g_1 0) (fun i=>M.Sc.mk (cI g_2 0 i) (cI g_2 1 i) (cI g_2 2 i) (cI g_2 3 i) (cI g_2 4 i)) m (fun i=>M.Pk.mk (cI g_3 0 i) (cI g_3 1 i) (cI g_3 2 i) (cI g_3 3 i) (cI g_3 4 i) (cI g_3 5 i)) f n k).b]),.bool true])
 | _=>none
theorem s22t:PureOK PP 22 e22t:=by
 intro xs ps res h hp
 unfold e22t at h
 split at h
 ·rename_i g_w g_h g_s g_v0 g_v1 g_d0 g_d1 g_r ns g_1 n g_2 m g_3 f
  cases h
  simp only [AllP.cons] at hp
  obtain ⟨Hg_1,Hg_2,Hg_3,hp⟩:=hp
  have h6:=s22 [.agg [.int .i64 g_w,.int .i64 g_h,.int .i64 g_s,.int .i64 g_v0,.int .i64 g_v1,.int .i64 g_d0,.int .i64 g_d1,.int .i64 g_r,.sl 1 ns g_1,.sl 5 n g_2,.sl 6 m g_3,.int .i64 f]] _ _ rfl (AllP.cons.2 ⟨Hg_1,(AllP.cons.2 ⟨Hg_2,(AllP.cons.2 ⟨Hg_3,AllP.nil⟩)⟩)⟩)
  simp only [M.Gd.rnN,hp.1,if_true] at h6
  exact h6
 ·cases h
def e21t:List SV→Option (List Prop × SV)
 | [.sl 5 n g_1,.sl 5 m g_2]=>some ([Row 5 n g_1,Row 5 m g_2,n≤100000,m≤100000,M.same n m (fun i=>M.Sc.mk (cI g_1 0 i) (cI g_1 1 i) (cI g_1 2 i) (cI g_1 3 i) (cI g_1 4 i)) (fun i=>M.Sc.mk (cI g_2 0 i) (cI g_2 1 i) (cI g_2 2 i) (cI g_2 3 i) (cI g_2 4 i))=true],.bool true)
 | _=>none
theorem s21t:PureOK PP 21 e21t:=by
 intro xs ps res h hp
 unfold e21t at h
 split at h
 ·rename_i n g_1 m g_2
  cases h
  simp only [AllP.cons] at hp
  obtain ⟨Hg_1,Hg_2,hp⟩:=hp
  have h6:=s21 [.sl 5 n g_1,.sl 5 m g_2] _ _ rfl (AllP.cons.2 ⟨Hg_1,(AllP.cons.2 ⟨Hg_2,(AllP.cons.2 ⟨(hp.1),(AllP.cons.2 ⟨(hp.2.1),AllP.nil⟩)⟩)⟩)⟩)
  rw [hp.2.2.1] at h6
  exact h6
 ·cases h
end Go.Proofs.Ytoncoofmijjgeaa.Sep
namespace Go.Proofs.Ytoncoofmijjgeaa.M
def swk (q:Nat→Int) (m i:Nat):Nat:=(Int.tmod (q i) ((m:Int)-1)).toNat
def swL (q:Nat→Int) (m:Nat):Nat→Nat→(Nat→Pk)→(Nat→Pk)
 | 0,_,T=>T
 | f+1,i,T=>swL q m f (i+1) (sw (swk q m i) (swk q m i+1) T)
theorem swL_end {q:Nat→Int} {m n i:Nat} {T:Nat→Pk} (h:n≤i):swL q m (n-i) i T=T:=by rw [show n-i=0 by omega]; rfl
theorem swL_step {q:Nat→Int} {m n i:Nat} {T:Nat→Pk} (h:i<n):swL q m (n-i) i T=swL q m (n-(i+1)) (i+1) (sw (swk q m i) (swk q m i+1) T):=by
 rw [show n-i=n-(i+1)+1 by omega]
 conv=>lhs; unfold swL
theorem swk_lt {q:Nat→Int} {m i:Nat} (h:1<m) (hq:0≤q i):(Int.tmod (q i) ((m:Int)-1)=swk q m i∧swk q m i+1<m):=by
 unfold swk
 have h1:=Int.tmod_nonneg ((m:Int)-1) hq
 have h2:=Int.tmod_lt_of_pos (q i) (show 0<(m:Int)-1 by omega)
 omega
theorem swL_sw {q:Nat→Int} {m n:Nat} (hm:1<m) (hq:∀ i,i<n→0≤q i):∀ {f i:Nat} {T:Nat→Pk},f=n-i→Sw 0 m T (swL q m f i T)
 | 0,i,T,_=>.refl
 | f+1,i,T,h=>by
  obtain ⟨h1,h2⟩:=swk_lt (q:=q) hm (hq i (by omega))
  unfold swL
  exact (Sw.one (p:=T) (Nat.zero_le _) (show swk q m i<m by omega) (Nat.zero_le _) h2).trans (swL_sw hm hq (by omega))
def swE (q:Nat→Int) (m nq i:Nat) (T:Nat→Pk):Nat→Pk:=if 1<m then swL q m (nq-i) i T else T
theorem swE_sw {q:Nat→Int} {m n:Nat} {P:Nat→Pk} (hq:∀ i,i<n→0≤q i):Sw 0 m P (swE q m n 0 P):=by
 unfold swE
 split
 ·rename_i h; exact swL_sw h hq rfl
 ·exact .refl
theorem rnB_ok {g:Gd} {ns:Nat} {x:Nat→Int} {n:Nat} {S:Nat→Sc} {m:Nat} {P:Nat→Pk} {f:Int} : g.rnB ns x n S m P f=true↔(ns≤70∧n≤300∧m≤70∧n*m≤3000)∧g.Ck ns x n S m P f:=by
 unfold Gd.rnB
 rw [decide_eq_true_iff,Gd.ckE_ok]
theorem shr {g:Gd} {ns:Nat} {x:Nat→Int} {n:Nat} {S:Nat→Sc} {m:Nat} {P:Nat→Pk} {f:Int} (h:g.Ck ns x n S m P f) :
  ins (g.leN x S m P f n) n (g.leR x S m P f n) S=true∧g.ckE ns x (g.leN x S m P f n) (g.leR x S m P f n) m P f=0∧same (g.leN x (g.leR x S m P f n) m P f (g.leN x S m P f n)) (g.leN x S m P f n) (g.leR x (g.leR x S m P f n) m P f (g.leN x S m P f n)) (g.leR x S m P f n)=true:=by
 have hv:=h.va
 obtain ⟨k1,k2,k3,⟨k4,k5⟩,k6,k7,k8⟩:=h
 obtain ⟨⟨a1,a2⟩,a3⟩:=Gd.le_again (f:=f) hv k5
 have hle:=Gd.leN_le (g:=g) (x:=x) (s:=S) (m:=m) (P:=P) (f:=f) n
 exact ⟨Gd.le_in hv k5,Gd.ckE_ok.2 ⟨k1,k2,k3,⟨by omega,a3⟩,k6,k7,k8⟩,same_iff.2 ⟨a1,fun i hi=>a2 i (by omega)⟩⟩
theorem shr_sw {g:Gd} {ns:Nat} {x:Nat→Int} {n:Nat} {S:Nat→Sc} {m:Nat} {P P':Nat→Pk} {f:Int} (h:g.Ck ns x n S m P f) (hs:Sw 0 m P P') :
  g.ckE ns x n S m P' f=0∧same (g.leN x S m P' f n) (g.leN x S m P f n) (g.leR x S m P' f n) (g.leR x S m P f n)=true:=by
 have hv:=h.va
 obtain ⟨k1,k2,k3,⟨k4,k5⟩,k6,k7,k8⟩:=h
 have k7':∀ i,i<m→(P' i).Vd ns:=fun i hi=>hs.all (Q:=fun p=>p.Vd ns) (fun k _ hk=>k7 k hk) i (Nat.zero_le _) hi
 have e:=Gd.le_same (f:=f) (P':=P') (S:=S) (n:=n) hv ⟨k1,k3,k7'⟩ k5 (fun i _ t=>(Gd.cnt_sw hs t).symm) (Nat.le_refl n)
 refine ⟨Gd.ckE_ok.2 ⟨k1,k2,k3,⟨k4,k5⟩,k6,k7',k8⟩,?_⟩
 unfold Gd.leN Gd.leR
 rw [e]
 exact same_iff.2 ⟨rfl,fun _ _=>rfl⟩
theorem shr_less {g:Gd} {ns:Nat} {x:Nat→Int} {n:Nat} {S:Nat→Sc} {m:Nat} {P:Nat→Pk} {f:Int} (h:g.Ck ns x n S m P f) (hf:0<f) :
  g.ckE ns x n S m P (f-1)=0∧ins (g.leN x S m P (f-1) n) (g.leN x S m P f n) (g.leR x S m P (f-1) n) (g.leR x S m P f n)=true:=by
 have hv:=h.va
 obtain ⟨k1,k2,k3,⟨k4,k5⟩,k6,k7,k8⟩:=h
 exact ⟨Gd.ckE_ok.2 ⟨k1,k2,k3,⟨k4,k5⟩,k6,k7,by omega⟩,Gd.le_wide hv hv (fun i hi=>⟨k5 i hi,k5 i hi⟩) (fun i _ t _ _ _=>by omega)⟩
theorem shr_more {g:Gd} {ns:Nat} {x:Nat→Int} {n:Nat} {S:Nat→Sc} {m j:Nat} {P P':Nat→Pk} {f:Int} (h:g.Ck ns x n S m P f) (h':g.Ck ns x n S (m+j) P' f) (hP:∀ i,i<m→P' i=P i) :
  ins (g.leN x S (m+j) P' f n) (g.leN x S m P f n) (g.leR x S (m+j) P' f n) (g.leR x S m P f n)=true:=by
 have hv:=h.va
 have hv':=h'.va
 obtain ⟨k1,k2,k3,⟨k4,k5⟩,k6,k7,k8⟩:=h
 refine Gd.le_wide hv' hv (fun i hi=>⟨k5 i hi,k5 i hi⟩) (fun i _ t _ _ hc => ?_)
 have:=Gd.cnt_more (g:=g) (x:=x) (s:=S i) hP (t:=t) j
 omega
def appP (m:Nat) (P Q:Nat→Pk):Nat→Pk:=fun k=>if k<m then P k else Q (k-m)
end Go.Proofs.Ytoncoofmijjgeaa.M
namespace Go.Proofs.Ytoncoofmijjgeaa.Sep
open Go
set_option linter.unusedVariables false
set_option linter.unusedSimpArgs false
--#def TRW(T) .row 6 m (fun k => [SI (M.Pk.k ($T k)), SI (M.Pk.s ($T k)), SI (M.Pk.t0 ($T k)), SI (M.Pk.t1 ($T k)), SI (M.Pk.l0 ($T k)), SI (M.Pk.l1 ($T k))])
def lp4 (g:M.Gd) (ns:Nat) (x:Nat→Int) (n:Nat) (S:Nat→M.Sc) (m:Nat) (P:Nat→M.Pk) (f:Int) (mq:Nat) (PQ:Nat→M.Pk) (nq:Nat) (q:Nat→Int) (N:Nat) (L:Nat→M.Sc):LoopS where
 ι:=Nat × (Nat→M.Pk)
 β:=Nat→M.Pk
 pre s:=m≤70∧(∀ i,i<nq→0≤q i∧q i<256)∧s.1≤nq∧nq≤9223372036854775807
 μ s:=nq-s.1
 next s _ _ _:=(s.1+1,M.sw (M.swk q m s.1) (M.swk q m s.1+1) s.2)
 out s:=M.swE q m nq s.1 s.2
 early _:=false
 SA s:=[(1,.sl 6 mq (fun k=>[SI (M.Pk.k (PQ k)),SI (M.Pk.s (PQ k)),SI (M.Pk.t0 (PQ k)),SI (M.Pk.t1 (PQ k)),SI (M.Pk.l0 (PQ k)),SI (M.Pk.l1 (PQ k))])),(3,.ptr 0 0),(7,.sl 5 N (fun k=>[SI (M.Sc.k (L k)),SI (M.Sc.c (L k)),SI (M.Sc.q (L k)),SI (M.Sc.a (L k)),SI (M.Sc.b (L k))])),(2,.sl 1 nq (fun k=>[.int .u8 (q k)])),(11,.vec 1 6 0 m),(12,SI s.1)]
 SH s:=[(0,.cells [SI (M.Gd.w g),SI (M.Gd.h g),SI (M.Gd.s g),SI (M.Gd.v0 g),SI (M.Gd.v1 g),SI (M.Gd.d0 g),SI (M.Gd.d1 g),SI (M.Gd.r g),.sl 1 ns (fun k=>[SI (x k)]),.sl 5 n (fun k=>[SI (M.Sc.k (S k)),SI (M.Sc.c (S k)),SI (M.Sc.q (S k)),SI (M.Sc.a (S k)),SI (M.Sc.b (S k))]),.sl 6 m (fun k=>[SI (M.Pk.k (P k)),SI (M.Pk.s (P k)),SI (M.Pk.t0 (P k)),SI (M.Pk.t1 (P k)),SI (M.Pk.l0 (P k)),SI (M.Pk.l1 (P k))]),SI f]),(1,.row 6 m (fun k=>[SI (M.Pk.k (s.2 k)),SI (M.Pk.s (s.2 k)),SI (M.Pk.t0 (s.2 k)),SI (M.Pk.t1 (s.2 k)),SI (M.Pk.l0 (s.2 k)),SI (M.Pk.l1 (s.2 k))]))]
 n0:=2
 NA T:=[(1,.sl 6 mq (fun k=>[SI (M.Pk.k (PQ k)),SI (M.Pk.s (PQ k)),SI (M.Pk.t0 (PQ k)),SI (M.Pk.t1 (PQ k)),SI (M.Pk.l0 (PQ k)),SI (M.Pk.l1 (PQ k))])),(3,.ptr 0 0),(7,.sl 5 N (fun k=>[SI (M.Sc.k (L k)),SI (M.Sc.c (L k)),SI (M.Sc.q (L k)),SI (M.Sc.a (L k)),SI (M.Sc.b (L k))])),(11,.vec 1 6 0 m)]
 NH T:=[(0,.cells [SI (M.Gd.w g),SI (M.Gd.h g),SI (M.Gd.s g),SI (M.Gd.v0 g),SI (M.Gd.v1 g),SI (M.Gd.d0 g),SI (M.Gd.d1 g),SI (M.Gd.r g),.sl 1 ns (fun k=>[SI (x k)]),.sl 5 n (fun k=>[SI (M.Sc.k (S k)),SI (M.Sc.c (S k)),SI (M.Sc.q (S k)),SI (M.Sc.a (S k)),SI (M.Sc.b (S k))]),.sl 6 m (fun k=>[SI (M.Pk.k (P k)),SI (M.Pk.s (P k)),SI (M.Pk.t0 (P k)),SI (M.Pk.t1 (P k)),SI (M.Pk.l0 (P k)),SI (M.Pk.l1 (P k))]),SI f]),(1,.row 6 m (fun k=>[SI (M.Pk.k (T k)),SI (M.Pk.s (T k)),SI (M.Pk.t0 (T k)),SI (M.Pk.t1 (T k)),SI (M.Pk.l0 (T k)),SI (M.Pk.l1 (T k))]))]
 n1:=2
 RA _:=[]
 RH _:=[]
def Rq4 (g:M.Gd) (ns:Nat) (x:Nat→Int) (n:Nat) (S:Nat→M.Sc) (m:Nat) (P:Nat→M.Pk) (f:Int) (mq:Nat) (PQ:Nat→M.Pk) (nq:Nat) (q:Nat→Int) (N:Nat) (L:Nat→M.Sc) (i:Nat) (T:Nat→M.Pk):Prop:=(fun (z10 z11 z15 z17:Int) (z12 z18:Nat) (z9:Nat→M.Pk) (z4 z5 z6 z7 z13:Prop)=>(fun (z3:Bool) (z0:Int) (z8:Nat)=>(fun (z16:Bool) (z1 z2:Nat) (z14:Prop)=>z14∧z14∧z14∧(z16=true→z17≤z15∧z15<(↑nq:Int)∧Int.toNat z15<nq∧R64 (q (Int.toNat z15))∧R64 (z11-z10)∧z11-z10≠z17∧R64 (z0+z10)∧R64 (z0+z10)∧z17≤z0+z10∧z0+z10<z11∧z1<m∧z17≤z0∧z0<z11∧z2<m∧z17≤z0∧z0<z11∧z2<m∧z17≤z0+z10∧z0+z10<z11∧z1<m∧R64 (z15+z10)∧(m≤(70:Nat)∧(∀ (i:Nat),i<nq→z17≤q i∧q i<(256:Int))∧z18≤nq∧nq≤(9223372036854775807:Nat))∧nq-z18<nq-i∧M.swE q m nq z18 (M.sw z12 z8 T)=z9∧z4∧z6∧(nq=nq∧∀ (k:Nat),k<nq→q k=q k)∧(0:Nat)=(0:Nat)∧m=m∧z15+z10=(↑z18:Int)∧g.w=g.w∧g.h=g.h∧g.s=g.s∧g.v0=g.v0∧g.v1=g.v1∧g.d0=g.d0∧g.d1=g.d1∧g.r=g.r∧z13∧z7∧z5∧f=f∧m≤m∧(∀ (k:Nat),k<m→(bif decide (k=z1) then (T z2).k else bif decide (k=z2) then (T z1).k else (T k).k)=(M.sw z12 z8 T k).k∧(bif decide (k=z1) then (T z2).s else bif decide (k=z2) then (T z1).s else (T k).s)=(M.sw z12 z8 T k).s∧(bif decide (k=z1) then (T z2).t0 else bif decide (k=z2) then (T z1).t0 else (T k).t0)=(M.sw z12 z8 T k).t0∧(bif decide (k=z1) then (T z2).t1 else bif decide (k=z2) then (T z1).t1 else (T k).t1)=(M.sw z12 z8 T k).t1∧(bif decide (k=z1) then (T z2).l0 else bif decide (k=z2) then (T z1).l0 else (T k).l0)=(M.sw z12 z8 T k).l0∧(bif decide (k=z1) then (T z2).l1 else bif decide (k=z2) then (T z1).l1 else (T k).l1)=(M.sw z12 z8 T k).l1)∧True)∧(z16=false→false=false∧z4∧z6∧(0:Nat)=(0:Nat)∧m=m∧g.w=g.w∧g.h=g.h∧g.s=g.s∧g.v0=g.v0∧g.v1=g.v1∧g.d0=g.d0∧g.d1=g.d1∧g.r=g.r∧z13∧z7∧z5∧f=f∧m≤m∧(∀ (k:Nat),k<m→(T k).k=(z9 k).k∧(T k).s=(z9 k).s∧(T k).t0=(z9 k).t0∧(T k).t1=(z9 k).t1∧(T k).l0=(z9 k).l0∧(T k).l1=(z9 k).l1)∧True)) (bif z3 then decide (z10<z11) else false) ((0:Nat)+Int.toNat (z0+z10)) ((0:Nat)+Int.toNat z0) (z3=true→z3=true)) (decide (z15<(↑nq:Int))) (Int.tmod (q (Int.toNat z15)) (z11-z10)) (z12+(1:Nat))) (1:Int) (↑m:Int) (↑i:Int) (0:Int) (M.swk q m i) (i+(1:Nat)) (M.swE q m nq i T) (mq=mq∧∀ (k:Nat),k<mq→(PQ k).k=(PQ k).k∧(PQ k).s=(PQ k).s∧(PQ k).t0=(PQ k).t0∧(PQ k).t1=(PQ k).t1∧(PQ k).l0=(PQ k).l0∧(PQ k).l1=(PQ k).l1) (m=m∧∀ (k:Nat),k<m→(P k).k=(P k).k∧(P k).s=(P k).s∧(P k).t0=(P k).t0∧(P k).t1=(P k).t1∧(P k).l0=(P k).l0∧(P k).l1=(P k).l1) (N=N∧∀ (k:Nat),k<N→(L k).k=(L k).k∧(L k).c=(L k).c∧(L k).q=(L k).q∧(L k).a=(L k).a∧(L k).b=(L k).b) (n=n∧∀ (k:Nat),k<n→(S k).k=(S k).k∧(S k).c=(S k).c∧(S k).q=(S k).q∧(S k).a=(S k).a∧(S k).b=(S k).b) (ns=ns∧∀ (k:Nat),k<ns→x k=x k)
theorem q4 (g:M.Gd) (ns:Nat) (x:Nat→Int) (n:Nat) (S:Nat→M.Sc) (m:Nat) (P:Nat→M.Pk) (f:Int) (mq:Nat) (PQ:Nat→M.Pk) (nq:Nat) (q:Nat→Int) (N:Nat) (L:Nat→M.Sc) (i:Nat) (T:Nat→M.Pk):VL true [] [] YS.none Try.f4 0 [0,1,2,3,6,7,8,9,10,11,12,13,14,15,16,17,29,35,56,69,117,120,143,156] [] 0 (lp4 g ns x n S m P f mq PQ nq q N L) ((i,T))=Rq4 g ns x n S m P f mq PQ nq q N L i T:=by kernel_rfl
theorem peq4 (g:M.Gd) (ns:Nat) (x:Nat→Int) (n:Nat) (S:Nat→M.Sc) (m:Nat) (P:Nat→M.Pk) (f:Int) (mq:Nat) (PQ:Nat→M.Pk) (nq:Nat) (q:Nat→Int) (N:Nat) (L:Nat→M.Sc) (i:Nat) (T:Nat→M.Pk):(lp4 g ns x n S m P f mq PQ nq q N L).pre ((i,T))=(m≤(70:Nat)∧(∀ (i:Nat),i<nq→(0:Int)≤q i∧q i<(256:Int))∧i≤nq∧nq≤(9223372036854775807:Nat)):=by kernel_rfl
theorem bq4 (g:M.Gd) (ns:Nat) (x:Nat→Int) (n:Nat) (S:Nat→M.Sc) (m:Nat) (P:Nat→M.Pk) (f:Int) (mq:Nat) (PQ:Nat→M.Pk) (nq:Nat) (q:Nat→Int) (N:Nat) (L:Nat→M.Sc) (i:Nat) (T:Nat→M.Pk) (hp:m≤(70:Nat)∧(∀ (i:Nat),i<nq→(0:Int)≤q i∧q i<(256:Int))∧i≤nq∧nq≤(9223372036854775807:Nat)):Rq4 g ns x n S m P f mq PQ nq q N L i T:=by
 unfold Rq4
 dsimp -iota -proj -eta -zeta only
 obtain ⟨h1,h2,h3,h4⟩:=id hp
 have r2:R64 ((m:Int)-1):=by unfold R64; omega
 simp only [Int.toNat_natCast,r2]
 by_cases hl:i<nq∧1<m
 ·obtain ⟨hl,hm⟩:=hl
  have r1:R64 ((i:Int)+1):=by unfold R64; omega
  simp only [r1]
  have hl':(i:Int)<nq:=by omega
  have hm':(1:Int)<m:=by omega
  obtain ⟨q1,q2⟩:=h2 i hl
  obtain ⟨k1,k2⟩:=M.swk_lt (q:=q) hm q1
  have r3:R64 (q i):=by unfold R64; omega
  have r4:R64 ((M.swk q m i:Int)+1):=by unfold R64; omega
  have e0:((M.swk q m i:Int)+1).toNat=M.swk q m i+1:=by omega
  have e1:M.swE q m nq (i+1) (M.sw (M.swk q m i) (M.swk q m i+1) T)=M.swE q m nq i T:=by
   unfold M.swE
   rw [if_pos hm,if_pos hm,M.swL_step hl]
  simp only [k1,r3,r4,e0,e1,Int.toNat_natCast,Nat.zero_add]
  have e2:∀ (F:M.Pk→Int) (k:Nat),(bif decide (k=M.swk q m i+1) then F (T (M.swk q m i)) else bif decide (k=M.swk q m i) then F (T (M.swk q m i+1)) else F (T k))=F (M.sw (M.swk q m i) (M.swk q m i+1) T k):=fun F k=>by
   unfold M.sw
   by_cases c1:k=M.swk q m i
   ·have c2:¬ M.swk q m i=M.swk q m i+1:=by omega
    subst c1; simp [c2]
   ·by_cases c2:k=M.swk q m i+1
    ·subst c2; simp
    ·simp [c1,c2]
  simp only [fun k=>e2 M.Pk.k k,fun k=>e2 M.Pk.s k,fun k=>e2 M.Pk.t0 k,fun k=>e2 M.Pk.t1 k,fun k=>e2 M.Pk.l0 k,fun k=>e2 M.Pk.l1 k]
  generalize M.swk q m i=kk at *
  simp [hl,hl',hm,hm',h1,h4]
  refine ⟨?_,?_⟩
  all_goals first | omega | (repeat' apply And.intro) <;> first | omega | exact h2
 ·have e1:M.swE q m nq i T=T:=by
   unfold M.swE
   split
   ·exact M.swL_end (by omega)
   ·rfl
  rw [e1]
  by_cases c:i<nq
  ·have c1:¬ 1<m:=fun h=>hl ⟨c,h⟩
   have c1':¬ (1:Int)<m:=by omega
   simp [c1,c1']
  ·have c1:¬ (i:Int)<nq:=by omega
   simp [c]
theorem t4 (g:M.Gd) (ns:Nat) (x:Nat→Int) (n:Nat) (S:Nat→M.Sc) (m:Nat) (P:Nat→M.Pk) (f:Int) (mq:Nat) (PQ:Nat→M.Pk) (nq:Nat) (q:Nat→Int) (N:Nat) (L:Nat→M.Sc) {F:Fence} (hF:FOK F) (Y:YEnv PP YS.none):∀ Q A H nx,loopT false Try.f4.ntmps 0 (lp4 g ns x n S m P f mq PQ nq q N L) (fun _ _ _=>((0:Nat),P)) Q A H nx→WPS Y F Try.f4.ntmps 0 (.block 0 (blkAt 0 Try.f4)) Q A H nx :=
 loopW (E:=[]) (.nil) (O:=[]) (.nil) (ck:=true) (L:=[0,1,2,3,6,7,8,9,10,11,12,13,14,15,16,17,29,35,56,69,117,120,143,156]) (f:=Try.f4) (m:=0) (id:=0) (l:=(lp4 g ns x n S m P f mq PQ nq q N L)) (LI:=fun i=>[]) Y hF (by kernel_rfl) (fun _=>.nil) (by
  rintro ⟨i,T⟩ hp
  exact Hold.of (q4 g ns x n S m P f mq PQ nq q N L i T) (bq4 g ns x n S m P f mq PQ nq q N L i T ((peq4 g ns x n S m P f mq PQ nq q N L i T).mp hp)))
def e4a:List SV→Option (List Prop × SV)
 | [.agg [.int .i64 g_w,.int .i64 g_h,.int .i64 g_s,.int .i64 g_v0,.int .i64 g_v1,.int .i64 g_d0,.int .i64 g_d1,.int .i64 g_r,.sl 1 ns g_1,.sl 5 n g_2,.sl 6 m g_3,.int .i64 f],.sl 6 mq g_4,.sl 1 nq g_5]=>some ([Row 1 ns g_1,Row 5 n g_2,Row 6 m g_3,Row 6 mq g_4,RowK .u8 1 nq g_5,M.Gd.rnB (M.Gd.mk g_w g_h g_s g_v0 g_v1 g_d0 g_d1 g_r) ns (cI g_1 0) n (fun i=>M.Sc.mk (cI g_2 0 i) (cI g_2 1 i) (cI g_2 2 i) (cI g_2 3 i) (cI g_2 4 i)) m (fun i=>M.Pk.mk (cI g_3 0 i) (cI g_3 1 i) (cI g_3 2 i) (cI g_3 3 i) (cI g_3 4 i) (cI g_3 5 i)) f=false],.bool true)
 | _=>none
def Rr4a (g:M.Gd) (ns:Nat) (x:Nat→Int) (n:Nat) (S:Nat→M.Sc) (m:Nat) (P:Nat→M.Pk) (f:Int) (mq:Nat) (PQ:Nat→M.Pk) (nq:Nat) (q:Nat→Int):Prop:=(fun (z0:Bool)=>(fun (z1:Bool) (z2:Prop)=>(∀ (k:Nat),k<ns→x k=x k)∧(∀ (k:Nat),k<n→(S k).k=(S k).k∧(S k).c=(S k).c∧(S k).q=(S k).q∧(S k).a=(S k).a∧(S k).b=(S k).b)∧(∀ (k:Nat),k<m→(P k).k=(P k).k∧(P k).s=(P k).s∧(P k).t0=(P k).t0∧(P k).t1=(P k).t1∧(P k).l0=(P k).l0∧(P k).l1=(P k).l1)∧(z2→z2)∧(z2→z2)∧(z0=false→z2)∧(z1=true→true=true)∧(z1=false→False)) (bif z0 then true else decide ((70:Int)<(↑mq:Int))) ((!z0)=true)) (!M.Gd.rnB g ns x n S m P f)
theorem r4a (g:M.Gd) (ns:Nat) (x:Nat→Int) (n:Nat) (S:Nat→M.Sc) (m:Nat) (P:Nat→M.Pk) (f:Int) (mq:Nat) (PQ:Nat→M.Pk) (nq:Nat) (q:Nat→Int):V true eqs [(17,pureE e17),(22,pureE e22)] Try.f4 [0,1,2,3,6,7,8,9,10,11,12,13,14,15,16,17,29,35,56,69,117,120,143,156] [] [.agg [SI (M.Gd.w g),SI (M.Gd.h g),SI (M.Gd.s g),SI (M.Gd.v0 g),SI (M.Gd.v1 g),SI (M.Gd.d0 g),SI (M.Gd.d1 g),SI (M.Gd.r g),.sl 1 ns (fun k=>[SI (x k)]),.sl 5 n (fun k=>[SI (M.Sc.k (S k)),SI (M.Sc.c (S k)),SI (M.Sc.q (S k)),SI (M.Sc.a (S k)),SI (M.Sc.b (S k))]),.sl 6 m (fun k=>[SI (M.Pk.k (P k)),SI (M.Pk.s (P k)),SI (M.Pk.t0 (P k)),SI (M.Pk.t1 (P k)),SI (M.Pk.l0 (P k)),SI (M.Pk.l1 (P k))]),SI f],.sl 6 mq (fun k=>[SI (M.Pk.k (PQ k)),SI (M.Pk.s (PQ k)),SI (M.Pk.t0 (PQ k)),SI (M.Pk.t1 (PQ k)),SI (M.Pk.l0 (PQ k)),SI (M.Pk.l1 (PQ k))]),.sl 1 nq (fun k=>[.int .u8 (q k)])] (.bool true)=Rr4a g ns x n S m P f mq PQ nq q:=by kernel_rfl
theorem br4a (g:M.Gd) (ns:Nat) (x:Nat→Int) (n:Nat) (S:Nat→M.Sc) (m:Nat) (P:Nat→M.Pk) (f:Int) (mq:Nat) (PQ:Nat→M.Pk) (nq:Nat) (q:Nat→Int) (hp:(M.Gd.rnB g ns x n S m P f=false)∧AllP []):Rr4a g ns x n S m P f mq PQ nq q:=by
 unfold Rr4a
 dsimp -iota -proj -eta -zeta only
 obtain ⟨hB,-⟩:=id hp
 simp [hB]
theorem s4a:PureOK PP 4 e4a:=by
 intro xs ps res h hp
 unfold e4a at h
 split at h
 ·rename_i g_w g_h g_s g_v0 g_v1 g_d0 g_d1 g_r ns g_1 n g_2 m g_3 f mq g_4 nq g_5
  cases h
  simp only [AllP.cons] at hp
  obtain ⟨Hg_1,Hg_2,Hg_3,hp⟩:=hp
  obtain ⟨Hg_4,Hg_5,hp⟩:=hp
  exact Spec.args (enterH (Hold.of (r4a (M.Gd.mk g_w g_h g_s g_v0 g_v1 g_d0 g_d1 g_r) ns (cI g_1 0) n (fun i=>M.Sc.mk (cI g_2 0 i) (cI g_2 1 i) (cI g_2 2 i) (cI g_2 3 i) (cI g_2 4 i)) m (fun i=>M.Pk.mk (cI g_3 0 i) (cI g_3 1 i) (cI g_3 2 i) (cI g_3 3 i) (cI g_3 4 i) (cI g_3 5 i)) f mq (fun i=>M.Pk.mk (cI g_4 0 i) (cI g_4 1 i) (cI g_4 2 i) (cI g_4 3 i) (cI g_4 4 i) (cI g_4 5 i)) nq (cI g_5 0)) (br4a (M.Gd.mk g_w g_h g_s g_v0 g_v1 g_d0 g_d1 g_r) ns (cI g_1 0) n (fun i=>M.Sc.mk (cI g_2 0 i) (cI g_2 1 i) (cI g_2 2 i) (cI g_2 3 i) (cI g_2 4 i)) m (fun i=>M.Pk.mk (cI g_3 0 i) (cI g_3 1 i) (cI g_3 2 i) (cI g_3 3 i) (cI g_3 4 i) (cI g_3 5 i)) f mq (fun i=>M.Pk.mk (cI g_4 0 i) (cI g_4 1 i) (cI g_4 2 i) (cI g_4 3 i) (cI g_4 4 i) (cI g_4 5 i)) nq (cI g_5 0) hp)) (eqsok) (.cons (pureE_ok s17) (.cons (pureE_ok s22) (.nil))) (k:=4) (by kernel_rfl) (by kernel_rfl) (fun _=>.nil)) (.cons (.agg (.cons (.refl _) (.cons (.refl _) (.cons (.refl _) (.cons (.refl _) (.cons (.refl _) (.cons (.refl _) (.cons (.refl _) (.cons (.refl _) (.cons (.row Hg_1 fun _=>rfl) (.cons (.row Hg_2 fun _=>rfl) (.cons (.row Hg_3 fun _=>rfl) (.cons (.refl _) .nil))))))))))))) (.cons (.row Hg_4 fun _=>rfl) (.cons (.rowK Hg_5 fun _=>rfl) .nil)))
 ·cases h
def e4b:List SV→Option (List Prop × SV)
 | [.agg [.int .i64 g_w,.int .i64 g_h,.int .i64 g_s,.int .i64 g_v0,.int .i64 g_v1,.int .i64 g_d0,.int .i64 g_d1,.int .i64 g_r,.sl 1 ns g_1,.sl 5 n g_2,.sl 6 m g_3,.int .i64 f],.sl 6 mq g_4,.sl 1 nq g_5]=>some ([Row 1 ns g_1,Row 5 n g_2,Row 6 m g_3,Row 6 mq g_4,RowK .u8 1 nq g_5,M.Gd.rnB (M.Gd.mk g_w g_h g_s g_v0 g_v1 g_d0 g_d1 g_r) ns (cI g_1 0) n (fun i=>M.Sc.mk (cI g_2 0 i) (cI g_2 1 i) (cI g_2 2 i) (cI g_2 3 i) (cI g_2 4 i)) m (fun i=>M.Pk.mk (cI g_3 0 i) (cI g_3 1 i) (cI g_3 2 i) (cI g_3 3 i) (cI g_3 4 i) (cI g_3 5 i)) f=true,∀ i,i<nq→0≤(cI g_5 0) i∧(cI g_5 0) i<256,nq≤9223372036854775807],.bool true)
 | _=>none
def Rr4b (g:M.Gd) (ns:Nat) (x:Nat→Int) (n:Nat) (S:Nat→M.Sc) (m:Nat) (P:Nat→M.Pk) (f:Int) (mq:Nat) (PQ:Nat→M.Pk) (nq:Nat) (q:Nat→Int):Prop:=(fun (z22:Bool) (z23:Int) (z9 z12 z15 z21:Nat) (z2 z11:Nat→M.Sc) (z8 z10 z16 z24 z26:Prop)=>(fun (z4 z5:Bool) (z25:Nat) (z0 z14:Nat→M.Pk) (z13:Nat→M.Sc) (z6:Prop)=>(fun (z3:Bool) (z20:Nat) (z7:Nat→M.Sc) (z1 z17 z19:Prop)=>(fun (z18:Prop)=>z16∧z8∧z10∧M.Gd.rnB g ns x n S m P f=true∧(z24→z24)∧(z24→z24)∧((!true)=false→z24)∧(z22=true→true=true)∧(z22=false→z6∧z8∧z9≤z15∧n≤z15∧M.ins z9 n z2 S=true∧((!true)=true→z26)∧((!true)=false→z16∧z6∧z10∧ns≤z15∧z9≤z15∧m≤z15∧(z17→z17)∧(z17→z17)∧(z17→∀ (k:Nat),k<z25→(z13 k).k=(z13 k).k∧(z13 k).c=(z13 k).c∧(z13 k).q=(z13 k).q∧(z13 k).a=(z13 k).a∧(z13 k).b=(z13 k).b)∧(z17→z6)∧(z17→z25≤z15)∧(z17→z9≤z15)∧(z17→M.same z25 z9 z13 z2=true)∧(z17→z17)∧(z4=false→z17)∧((bif z4 then true else !true)=true→z26)∧((bif z4 then true else !true)=false→(∀ (k:Nat),k<m→true=true)∧z12≤z12∧(z12+m)*(48:Nat)≤(140737488355328:Nat)∧(m≤(70:Nat)∧(∀ (i:Nat),i<nq→z23≤q i∧q i<(256:Int))∧z12≤nq∧nq≤(9223372036854775807:Nat))∧((mq=mq∧∀ (k:Nat),k<mq→(PQ k).k=(PQ k).k∧(PQ k).s=(PQ k).s∧(PQ k).t0=(PQ k).t0∧(PQ k).t1=(PQ k).t1∧(PQ k).l0=(PQ k).l0∧(PQ k).l1=(PQ k).l1)∧(z9=z9∧z6)∧(nq=nq∧∀ (k:Nat),k<nq→q k=q k)∧z12=z12∧z12+m=m∧z23=(↑z12:Int)∧g.w=g.w∧g.h=g.h∧g.s=g.s∧g.v0=g.v0∧g.v1=g.v1∧g.d0=g.d0∧g.d1=g.d1∧g.r=g.r∧(ns=ns∧z16)∧(n=n∧z8)∧(m=m∧z10)∧f=f∧m≤z12+m∧(∀ (k:Nat),k<m→(bif decide (k<z12) then z23 else (P (k-z12)).k)=(P k).k∧(bif decide (k<z12) then z23 else (P (k-z12)).s)=(P k).s∧(bif decide (k<z12) then z23 else (P (k-z12)).t0)=(P k).t0∧(bif decide (k<z12) then z23 else (P (k-z12)).t1)=(P k).t1∧(bif decide (k<z12) then z23 else (P (k-z12)).l0)=(P k).l0∧(bif decide (k<z12) then z23 else (P (k-z12)).l1)=(P k).l1)∧True)∧(false=false→z12+m≤m∧z16∧z8∧(∀ (k:Nat),k<m→(z14 (z12+k)).k=(z14 (z12+k)).k∧(z14 (z12+k)).s=(z14 (z12+k)).s∧(z14 (z12+k)).t0=(z14 (z12+k)).t0∧(z14 (z12+k)).t1=(z14 (z12+k)).t1∧(z14 (z12+k)).l0=(z14 (z12+k)).l0∧(z14 (z12+k)).l1=(z14 (z12+k)).l1)∧ns≤z15∧n≤z15∧m≤z15∧(z18→z18)∧(z18→z18)∧(z18→∀ (k:Nat),k<z20→(z7 k).k=(z7 k).k∧(z7 k).c=(z7 k).c∧(z7 k).q=(z7 k).q∧(z7 k).a=(z7 k).a∧(z7 k).b=(z7 k).b)∧(z18→z6)∧(z18→z20≤z15)∧(z18→z9≤z15)∧(z18→M.same z20 z9 z7 z2=true)∧(z18→z18)∧(z3=false→z18)∧((bif z3 then true else !true)=true→z26)∧((bif z3 then true else !true)=false→(decide (z23<f)=true→R64 (f-(1:Int))∧z16∧z8∧z10∧ns≤z15∧n≤z15∧m≤z15∧(z19→z19)∧(z19→z19)∧(z19→∀ (k:Nat),k<z21→(z11 k).k=(z11 k).k∧(z11 k).c=(z11 k).c∧(z11 k).q=(z11 k).q∧(z11 k).a=(z11 k).a∧(z11 k).b=(z11 k).b)∧(z19→z6)∧(z19→z21≤z15)∧(z19→z9≤z15)∧(z19→M.ins z21 z9 z11 z2=true)∧(z19→z19)∧(z5=false→z19)∧((bif z5 then true else !true)=true→z26)∧((bif z5 then true else !true)=false→z1))∧(decide (z23<f)=false→z1)))∧(z26→False))))) ((!z3)=true)) (!decide (M.Gd.ckE g ns x n S m (fun i=>z14 (z12+i)) f=z23)) (M.Gd.lN g ns x n S m (fun i=>z14 (z12+i)) f) (M.Gd.leR g x S m (fun i=>z14 (z12+i)) f n) ((∀ (k:Nat),k<m→true=true)∧z12≤z12∧(z12+m)*(48:Nat)≤(140737488355328:Nat)∧(∀ (k:Nat),k<mq→true=true)∧z12+m≤z12+m∧(z12+m+mq)*(48:Nat)≤(140737488355328:Nat)∧z12+(z12+m+mq)≤z12+m+mq∧z16∧z8∧(∀ (k:Nat),k<z12+m+mq→((bif decide (z12+k<z12+m) then bif decide (z12+k<z12) then z23 else (P (z12+k-z12)).k else (PQ (z12+k-(z12+m))).k)=bif decide (z12+k<z12+m) then bif decide (z12+k<z12) then z23 else (P (z12+k-z12)).k else (PQ (z12+k-(z12+m))).k)∧((bif decide (z12+k<z12+m) then bif decide (z12+k<z12) then z23 else (P (z12+k-z12)).s else (PQ (z12+k-(z12+m))).s)=bif decide (z12+k<z12+m) then bif decide (z12+k<z12) then z23 else (P (z12+k-z12)).s else (PQ (z12+k-(z12+m))).s)∧((bif decide (z12+k<z12+m) then bif decide (z12+k<z12) then z23 else (P (z12+k-z12)).t0 else (PQ (z12+k-(z12+m))).t0)=bif decide (z12+k<z12+m) then bif decide (z12+k<z12) then z23 else (P (z12+k-z12)).t0 else (PQ (z12+k-(z12+m))).t0)∧((bif decide (z12+k<z12+m) then bif decide (z12+k<z12) then z23 else (P (z12+k-z12)).t1 else (PQ (z12+k-(z12+m))).t1)=bif decide (z12+k<z12+m) then bif decide (z12+k<z12) then z23 else (P (z12+k-z12)).t1 else (PQ (z12+k-(z12+m))).t1)∧((bif decide (z12+k<z12+m) then bif decide (z12+k<z12) then z23 else (P (z12+k-z12)).l0 else (PQ (z12+k-(z12+m))).l0)=bif decide (z12+k<z12+m) then bif decide (z12+k<z12) then z23 else (P (z12+k-z12)).l0 else (PQ (z12+k-(z12+m))).l0)∧(bif decide (z12+k<z12+m) then bif decide (z12+k<z12) then z23 else (P (z12+k-z12)).l1 else (PQ (z12+k-(z12+m))).l1)=bif decide (z12+k<z12+m) then bif decide (z12+k<z12) then z23 else (P (z12+k-z12)).l1 else (PQ (z12+k-(z12+m))).l1)∧((!decide (ns≤(70:Nat)∧n≤(300:Nat)∧z12+m+mq≤(70:Nat)∧n*(z12+m+mq)≤(3000:Nat)))=true→true=true)∧((!decide (ns≤(70:Nat)∧n≤(300:Nat)∧z12+m+mq≤(70:Nat)∧n*(z12+m+mq)≤(3000:Nat)))=false→z12+(z12+m+mq)≤z12+m+mq∧z16∧z8∧(∀ (k:Nat),k<z12+m+mq→((bif decide (z12+k<z12+m) then bif decide (z12+k<z12) then z23 else (P (z12+k-z12)).k else (PQ (z12+k-(z12+m))).k)=bif decide (z12+k<z12+m) then bif decide (z12+k<z12) then z23 else (P (z12+k-z12)).k else (PQ (z12+k-(z12+m))).k)∧((bif decide (z12+k<z12+m) then bif decide (z12+k<z12) then z23 else (P (z12+k-z12)).s else (PQ (z12+k-(z12+m))).s)=bif decide (z12+k<z12+m) then bif decide (z12+k<z12) then z23 else (P (z12+k-z12)).s else (PQ (z12+k-(z12+m))).s)∧((bif decide (z12+k<z12+m) then bif decide (z12+k<z12) then z23 else (P (z12+k-z12)).t0 else (PQ (z12+k-(z12+m))).t0)=bif decide (z12+k<z12+m) then bif decide (z12+k<z12) then z23 else (P (z12+k-z12)).t0 else (PQ (z12+k-(z12+m))).t0)∧((bif decide (z12+k<z12+m) then bif decide (z12+k<z12) then z23 else (P (z12+k-z12)).t1 else (PQ (z12+k-(z12+m))).t1)=bif decide (z12+k<z12+m) then bif decide (z12+k<z12) then z23 else (P (z12+k-z12)).t1 else (PQ (z12+k-(z12+m))).t1)∧((bif decide (z12+k<z12+m) then bif decide (z12+k<z12) then z23 else (P (z12+k-z12)).l0 else (PQ (z12+k-(z12+m))).l0)=bif decide (z12+k<z12+m) then bif decide (z12+k<z12) then z23 else (P (z12+k-z12)).l0 else (PQ (z12+k-(z12+m))).l0)∧(bif decide (z12+k<z12+m) then bif decide (z12+k<z12) then z23 else (P (z12+k-z12)).l1 else (PQ (z12+k-(z12+m))).l1)=bif decide (z12+k<z12+m) then bif decide (z12+k<z12) then z23 else (P (z12+k-z12)).l1 else (PQ (z12+k-(z12+m))).l1)∧ns≤z15∧n≤z15∧z12+m+mq≤z15∧((!!decide (M.Gd.ckE g ns x n S (z12+m+mq) z0 f=z23))=true→(!!decide (M.Gd.ckE g ns x n S (z12+m+mq) z0 f=z23))=true)∧((!!decide (M.Gd.ckE g ns x n S (z12+m+mq) z0 f=z23))=true→(!!decide (M.Gd.ckE g ns x n S (z12+m+mq) z0 f=z23))=true)∧((!!decide (M.Gd.ckE g ns x n S (z12+m+mq) z0 f=z23))=true→∀ (k:Nat),k<M.Gd.lN g ns x n S (z12+m+mq) z0 f→(M.Gd.leR g x S (z12+m+mq) z0 f n k).k=(M.Gd.leR g x S (z12+m+mq) z0 f n k).k∧(M.Gd.leR g x S (z12+m+mq) z0 f n k).c=(M.Gd.leR g x S (z12+m+mq) z0 f n k).c∧(M.Gd.leR g x S (z12+m+mq) z0 f n k).q=(M.Gd.leR g x S (z12+m+mq) z0 f n k).q∧(M.Gd.leR g x S (z12+m+mq) z0 f n k).a=(M.Gd.leR g x S (z12+m+mq) z0 f n k).a∧(M.Gd.leR g x S (z12+m+mq) z0 f n k).b=(M.Gd.leR g x S (z12+m+mq) z0 f n k).b)∧((!!decide (M.Gd.ckE g ns x n S (z12+m+mq) z0 f=z23))=true→z6)∧((!!decide (M.Gd.ckE g ns x n S (z12+m+mq) z0 f=z23))=true→M.Gd.lN g ns x n S (z12+m+mq) z0 f≤z15)∧((!!decide (M.Gd.ckE g ns x n S (z12+m+mq) z0 f=z23))=true→z9≤z15)∧((!!decide (M.Gd.ckE g ns x n S (z12+m+mq) z0 f=z23))=true→M.ins (M.Gd.lN g ns x n S (z12+m+mq) z0 f) z9 (M.Gd.leR g x S (z12+m+mq) z0 f n) z2=true)∧((!decide (M.Gd.ckE g ns x n S (z12+m+mq) z0 f=z23))=false→(!!decide (M.Gd.ckE g ns x n S (z12+m+mq) z0 f=z23))=true)∧((bif !decide (M.Gd.ckE g ns x n S (z12+m+mq) z0 f=z23) then true else true)=true→(bif !decide (M.Gd.ckE g ns x n S (z12+m+mq) z0 f=z23) then true else true)=true)∧(bif bif !decide (M.Gd.ckE g ns x n S (z12+m+mq) z0 f=z23) then true else true then true else false)=true)) ((!z4)=true) ((!z5)=true)) (!decide (M.Gd.ckE g ns x z9 z2 m P f=z23)) (!decide (M.Gd.ckE g ns x n S m P (f-(1:Int))=z23)) (M.Gd.lN g ns x z9 z2 m P f) (fun i=>M.Pk.mk (bif decide (z12+i<z12+m) then bif decide (z12+i<z12) then z23 else (P (z12+i-z12)).k else (PQ (z12+i-(z12+m))).k) (bif decide (z12+i<z12+m) then bif decide (z12+i<z12) then z23 else (P (z12+i-z12)).s else (PQ (z12+i-(z12+m))).s) (bif decide (z12+i<z12+m) then bif decide (z12+i<z12) then z23 else (P (z12+i-z12)).t0 else (PQ (z12+i-(z12+m))).t0) (bif decide (z12+i<z12+m) then bif decide (z12+i<z12) then z23 else (P (z12+i-z12)).t1 else (PQ (z12+i-(z12+m))).t1) (bif decide (z12+i<z12+m) then bif decide (z12+i<z12) then z23 else (P (z12+i-z12)).l0 else (PQ (z12+i-(z12+m))).l0) (bif decide (z12+i<z12+m) then bif decide (z12+i<z12) then z23 else (P (z12+i-z12)).l1 else (PQ (z12+i-(z12+m))).l1)) (M.swE q m nq z12 P) (M.Gd.leR g x z2 m P f z9) (∀ (k:Nat),k<z9→(z2 k).k=(z2 k).k∧(z2 k).c=(z2 k).c∧(z2 k).q=(z2 k).q∧(z2 k).a=(z2 k).a∧(z2 k).b=(z2 k).b)) (bif !true then true else decide ((70:Int)<(↑mq:Int))) (0:Int) (M.Gd.leN g x S m P f n) (0:Nat) (100000:Nat) (M.Gd.lN g ns x n S m P (f-(1:Int))) (M.Gd.leR g x S m P f n) (M.Gd.leR g x S m P (f-(1:Int)) n) (∀ (k:Nat),k<n→(S k).k=(S k).k∧(S k).c=(S k).c∧(S k).q=(S k).q∧(S k).a=(S k).a∧(S k).b=(S k).b) (∀ (k:Nat),k<m→(P k).k=(P k).k∧(P k).s=(P k).s∧(P k).t0=(P k).t0∧(P k).t1=(P k).t1∧(P k).l0=(P k).l0∧(P k).l1=(P k).l1) (∀ (k:Nat),k<ns→x k=x k) ((!!true)=true) (false=true)
theorem r4b (g:M.Gd) (ns:Nat) (x:Nat→Int) (n:Nat) (S:Nat→M.Sc) (m:Nat) (P:Nat→M.Pk) (f:Int) (mq:Nat) (PQ:Nat→M.Pk) (nq:Nat) (q:Nat→Int):V true eqs [(16,pureE e16),(17,pureE e17),(18,pureE e18s),(21,pureE e21t),(22,pureE e22t),(23,pureE e23t)] Try.f4 [0,1,2,3,6,7,8,9,10,11,12,13,14,15,16,17,29,35,56,69,117,120,143,156] [(0,loopT false Try.f4.ntmps 0 (lp4 g ns x n S m P f mq PQ nq q (M.Gd.leN g x S m P f n) (M.Gd.leR g x S m P f n)) (fun _ _ _=>((0:Nat),P)))] [.agg [SI (M.Gd.w g),SI (M.Gd.h g),SI (M.Gd.s g),SI (M.Gd.v0 g),SI (M.Gd.v1 g),SI (M.Gd.d0 g),SI (M.Gd.d1 g),SI (M.Gd.r g),.sl 1 ns (fun k=>[SI (x k)]),.sl 5 n (fun k=>[SI (M.Sc.k (S k)),SI (M.Sc.c (S k)),SI (M.Sc.q (S k)),SI (M.Sc.a (S k)),SI (M.Sc.b (S k))]),.sl 6 m (fun k=>[SI (M.Pk.k (P k)),SI (M.Pk.s (P k)),SI (M.Pk.t0 (P k)),SI (M.Pk.t1 (P k)),SI (M.Pk.l0 (P k)),SI (M.Pk.l1 (P k))]),SI f],.sl 6 mq (fun k=>[SI (M.Pk.k (PQ k)),SI (M.Pk.s (PQ k)),SI (M.Pk.t0 (PQ k)),SI (M.Pk.t1 (PQ k)),SI (M.Pk.l0 (PQ k)),SI (M.Pk.l1 (PQ k))]),.sl 1 nq (fun k=>[.int .u8 (q k)])] (.bool true)=Rr4b g ns x n S m P f mq PQ nq q:=by kernel_rfl
theorem br4b (g:M.Gd) (ns:Nat) (x:Nat→Int) (n:Nat) (S:Nat→M.Sc) (m:Nat) (P:Nat→M.Pk) (f:Int) (mq:Nat) (PQ:Nat→M.Pk) (nq:Nat) (q:Nat→Int) (hp:(M.Gd.rnB g ns x n S m P f=true)∧(∀ i,i<nq→0≤q i∧q i<256)∧(nq≤9223372036854775807)∧AllP []):Rr4b g ns x n S m P f mq PQ nq q:=by
 unfold Rr4b
 dsimp -iota -proj -eta -zeta only
 obtain ⟨hB,hq,hnq,-⟩:=id hp
 by_cases c0:mq≤70
 ·have c0':¬ (70:Int)<mq:=by omega
  obtain ⟨⟨b1,b2,b3,b4⟩,hC⟩:=M.rnB_ok.1 hB
  obtain ⟨a1,a2,a3⟩:=M.shr hC
  have hle:=M.Gd.leN_le (g:=g) (x:=x) (s:=S) (m:=m) (P:=P) (f:=f) n
  have hcE:=M.Gd.ckE_ok.2 hC
  obtain ⟨d1,d2⟩:=M.shr_sw hC (M.swE_sw (n:=nq) (fun i hi=>(hq i hi).1))
  have e3:(fun i=>M.Pk.mk (bif decide (0+i<0+m) then bif decide (0+i<0) then 0 else (P (0+i-0)).k else (PQ (0+i-(0+m))).k) (bif decide (0+i<0+m) then bif decide (0+i<0) then 0 else (P (0+i-0)).s else (PQ (0+i-(0+m))).s) (bif decide (0+i<0+m) then bif decide (0+i<0) then 0 else (P (0+i-0)).t0 else (PQ (0+i-(0+m))).t0) (bif decide (0+i<0+m) then bif decide (0+i<0) then 0 else (P (0+i-0)).t1 else (PQ (0+i-(0+m))).t1) (bif decide (0+i<0+m) then bif decide (0+i<0) then 0 else (P (0+i-0)).l0 else (PQ (0+i-(0+m))).l0) (bif decide (0+i<0+m) then bif decide (0+i<0) then 0 else (P (0+i-0)).l1 else (PQ (0+i-(0+m))).l1))=M.appP m P PQ:=by
   funext i
   unfold M.appP
   by_cases c:i<m
   ·simp [c]
   ·simp [c]
  have hmo:M.Gd.ckE g ns x n S (0+m+mq) (M.appP m P PQ) f=0→M.ins (M.Gd.leN g x S (0+m+mq) (M.appP m P PQ) f n) (M.Gd.leN g x S m P f n) (M.Gd.leR g x S (0+m+mq) (M.appP m P PQ) f n) (M.Gd.leR g x S m P f n)=true:=fun h=>by
   have e:0+m+mq=m+mq:=by omega
   rw [e] at h ⊢
   exact M.shr_more hC (M.Gd.ckE_ok.1 h) (fun i hi=>by unfold M.appP; rw [if_pos hi])
  have hle2:=M.Gd.leN_le (g:=g) (x:=x) (s:=S) (m:=0+m+mq) (P:=M.appP m P PQ) (f:=f) n
  have hle3:=M.Gd.leN_le (g:=g) (x:=x) (s:=S) (m:=m) (P:=P) (f:=f-1) n
  have hle4:=M.Gd.leN_le (g:=g) (x:=x) (s:=M.Gd.leR g x S m P f n) (m:=m) (P:=P) (f:=f) (M.Gd.leN g x S m P f n)
  have hle5:=M.Gd.leN_le (g:=g) (x:=x) (s:=S) (m:=m) (P:=M.swE q m nq 0 P) (f:=f) n
  have f1:=hC.2.2.2.2.2.2
  have r1:R64 (f-1):=by unfold R64; omega
  have e4:(fun i=>M.swE q m nq 0 P (0+i))=M.swE q m nq 0 P:=by funext i; rw [Nat.zero_add]
  simp only [e3,e4,hB,M.Gd.lN,hcE,a1,a2,a3,d1,d2,if_true,r1]
  generalize hE:M.Gd.ckE g ns x n S (0+m+mq) (M.appP m P PQ) f=E at *
  rw [show 0+m+mq=m+mq by omega] at hmo hle2 ⊢
  have fin:ns≤100000∧n≤100000∧m+mq≤100000∧(E=0→(if E=0 then M.Gd.leN g x S (m+mq) (M.appP m P PQ) f n else 0)≤100000)∧(E=0→M.Gd.leN g x S m P f n≤100000)∧(E=0→M.ins (if E=0 then M.Gd.leN g x S (m+mq) (M.appP m P PQ) f n else 0) (M.Gd.leN g x S m P f n) (M.Gd.leR g x S (m+mq) (M.appP m P PQ) f n) (M.Gd.leR g x S m P f n)=true) :=
   ⟨by omega,by omega,by omega,fun h=>by rw [if_pos h]; omega,fun _=>by omega,fun h=>by rw [if_pos h]; exact hmo h⟩
  by_cases hf:0<f
  ·obtain ⟨g1,g2⟩:=M.shr_less hC hf
   simp only [g1,g2,if_true]
   simp [hf,c0']
   exact ⟨by omega,by omega,by omega,by omega,by omega,by omega,by omega,by omega,⟨by omega,hq,hnq⟩,by omega,by omega,by omega,by omega,by omega,by omega,by omega,by omega,by omega,by omega,by omega,by omega,fun _ _ _ _=>fin⟩
  ·simp [hf,c0']
   exact ⟨by omega,by omega,by omega,by omega,by omega,by omega,by omega,by omega,⟨by omega,hq,hnq⟩,by omega,by omega,by omega,by omega,by omega,by omega,by omega,fun _ _ _ _=>fin⟩
 ·have c0':(70:Int)<mq:=by omega
  simp [c0',hB]
theorem s4b:PureOK PP 4 e4b:=by
 intro xs ps res h hp
 unfold e4b at h
 split at h
 ·rename_i g_w g_h g_s g_v0 g_v1 g_d0 g_d1 g_r ns g_1 n g_2 m g_3 f mq g_4 nq g_5
  cases h
  simp only [AllP.cons] at hp
  obtain ⟨Hg_1,Hg_2,Hg_3,hp⟩:=hp
  obtain ⟨Hg_4,Hg_5,hp⟩:=hp
  exact Spec.args (enterH (Hold.of (r4b (M.Gd.mk g_w g_h g_s g_v0 g_v1 g_d0 g_d1 g_r) ns (cI g_1 0) n (fun i=>M.Sc.mk (cI g_2 0 i) (cI g_2 1 i) (cI g_2 2 i) (cI g_2 3 i) (cI g_2 4 i)) m (fun i=>M.Pk.mk (cI g_3 0 i) (cI g_3 1 i) (cI g_3 2 i) (cI g_3 3 i) (cI g_3 4 i) (cI g_3 5 i)) f mq (fun i=>M.Pk.mk (cI g_4 0 i) (cI g_4 1 i) (cI g_4 2 i) (cI g_4 3 i) (cI g_4 4 i) (cI g_4 5 i)) nq (cI g_5 0)) (br4b (M.Gd.mk g_w g_h g_s g_v0 g_v1 g_d0 g_d1 g_r) ns (cI g_1 0) n (fun i=>M.Sc.mk (cI g_2 0 i) (cI g_2 1 i) (cI g_2 2 i) (cI g_2 3 i) (cI g_2 4 i)) m (fun i=>M.Pk.mk (cI g_3 0 i) (cI g_3 1 i) (cI g_3 2 i) (cI g_3 3 i) (cI g_3 4 i) (cI g_3 5 i)) f mq (fun i=>M.Pk.mk (cI g_4 0 i) (cI g_4 1 i) (cI g_4 2 i) (cI g_4 3 i) (cI g_4 4 i) (cI g_4 5 i)) nq (cI g_5 0) hp)) (eqsok) (.cons (pureE_ok s16) (.cons (pureE_ok s17) (.cons (pureE_ok s18s) (.cons (pureE_ok s21t) (.cons (pureE_ok s22t) (.cons (pureE_ok s23t) (.nil))))))) (k:=4) (by kernel_rfl) (by kernel_rfl) (fun Y=>.cons (by kernel_rfl) (t4 (M.Gd.mk g_w g_h g_s g_v0 g_v1 g_d0 g_d1 g_r) ns (cI g_1 0) n (fun i=>M.Sc.mk (cI g_2 0 i) (cI g_2 1 i) (cI g_2 2 i) (cI g_2 3 i) (cI g_2 4 i)) m (fun i=>M.Pk.mk (cI g_3 0 i) (cI g_3 1 i) (cI g_3 2 i) (cI g_3 3 i) (cI g_3 4 i) (cI g_3 5 i)) f mq (fun i=>M.Pk.mk (cI g_4 0 i) (cI g_4 1 i) (cI g_4 2 i) (cI g_4 3 i) (cI g_4 4 i) (cI g_4 5 i)) nq (cI g_5 0) (M.Gd.leN (M.Gd.mk g_w g_h g_s g_v0 g_v1 g_d0 g_d1 g_r) (cI g_1 0) (fun i=>M.Sc.mk (cI g_2 0 i) (cI g_2 1 i) (cI g_2 2 i) (cI g_2 3 i) (cI g_2 4 i)) m (fun i=>M.Pk.mk (cI g_3 0 i) (cI g_3 1 i) (cI g_3 2 i) (cI g_3 3 i) (cI g_3 4 i) (cI g_3 5 i)) f n) (M.Gd.leR (M.Gd.mk g_w g_h g_s g_v0 g_v1 g_d0 g_d1 g_r) (cI g_1 0) (fun i=>M.Sc.mk (cI g_2 0 i) (cI g_2 1 i) (cI g_2 2 i) (cI g_2 3 i) (cI g_2 4 i)) m (fun i=>M.Pk.mk (cI g_3 0 i) (cI g_3 1 i) (cI g_3 2 i) (cI g_3 3 i) (cI g_3 4 i) (cI g_3 5 i)) f n) FOK.wide Y) (.nil))) (.cons (.agg (.cons (.refl _) (.cons (.refl _) (.cons (.refl _) (.cons (.refl _) (.cons (.refl _) (.cons (.refl _) (.cons (.refl _) (.cons (.refl _) (.cons (.row Hg_1 fun _=>rfl) (.cons (.row Hg_2 fun _=>rfl) (.cons (.row Hg_3 fun _=>rfl) (.cons (.refl _) .nil))))))))))))) (.cons (.row Hg_4 fun _=>rfl) (.cons (.rowK Hg_5 fun _=>rfl) .nil)))
 ·cases h
theorem s4 {w h s v0 v1 d0 d1 r:Int} {ns n m mq nq:Nat} {f:Int} {G1 G2 G3 G4 G5:Nat→List SV} (H1:Row 1 ns G1) (H2:Row 5 n G2) (H3:Row 6 m G3) (H4:Row 6 mq G4) (H5:RowK .u8 1 nq G5) (hq:∀ i,i<nq→0≤cI G5 0 i∧cI G5 0 i<256) (hn:nq≤9223372036854775807) :
  Pure PP 4 (SV.denL [.agg [.int .i64 w,.int .i64 h,.int .i64 s,.int .i64 v0,.int .i64 v1,.int .i64 d0,.int .i64 d1,.int .i64 r,.sl 1 ns G1,.sl 5 n G2,.sl 6 m G3,.int .i64 f],.sl 6 mq G4,.sl 1 nq G5]) (SV.bool true).den:=by
 cases hB:M.Gd.rnB (M.Gd.mk w h s v0 v1 d0 d1 r) ns (cI G1 0) n (fun i=>M.Sc.mk (cI G2 0 i) (cI G2 1 i) (cI G2 2 i) (cI G2 3 i) (cI G2 4 i)) m (fun i=>M.Pk.mk (cI G3 0 i) (cI G3 1 i) (cI G3 2 i) (cI G3 3 i) (cI G3 4 i) (cI G3 5 i)) f with
 | false=>exact s4a _ _ _ rfl (AllP.cons.2 ⟨H1,AllP.cons.2 ⟨H2,AllP.cons.2 ⟨H3,AllP.cons.2 ⟨H4,AllP.cons.2 ⟨H5,AllP.cons.2 ⟨hB,AllP.nil⟩⟩⟩⟩⟩⟩)
 | true=>exact s4b _ _ _ rfl (AllP.cons.2 ⟨H1,AllP.cons.2 ⟨H2,AllP.cons.2 ⟨H3,AllP.cons.2 ⟨H4,AllP.cons.2 ⟨H5,AllP.cons.2 ⟨hB,AllP.cons.2 ⟨hq,AllP.cons.2 ⟨hn,AllP.nil⟩⟩⟩⟩⟩⟩⟩⟩)
end Go.Proofs.Ytoncoofmijjgeaa.Sep
