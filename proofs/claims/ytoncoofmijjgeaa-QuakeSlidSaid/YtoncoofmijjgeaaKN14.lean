/-
  Texts of one seat, joined. No condition. (This text proves no statement by itself.)
-/
import Derived.Test.YtoncoofmijjgeaaKR13
import Derived.Test.YtoncoofmijjgeaaKSep21
namespace Go.Proofs.Ytoncoofmijjgeaa.M
open Go
set_option linter.unusedVariables false
set_option linter.unusedSimpArgs false
def nxF (c : Nat → Bool) : Nat → Nat → Nat
 | 0, k => k
 | f + 1, k => if c k = true then k else nxF c f (k + 1)
theorem nxF_end {c : Nat → Bool} {m k : Nat} (h : m ≤ k) : nxF c (m - k) k = k := by
 rw [show m - k = 0 by omega]; rfl
theorem nxF_stop {c : Nat → Bool} {m k : Nat} (h : k < m) (hc : c k = true) : nxF c (m - k) k = k := by
 obtain ⟨r, hr⟩ : ∃ r, m - k = r + 1 := ⟨m - k - 1, by omega⟩
 rw [hr]; unfold nxF; rw [if_pos hc]
theorem nxF_step {c : Nat → Bool} {m k : Nat} (h : k < m) (hc : c k = false) : nxF c (m - k) k = nxF c (m - (k + 1)) (k + 1) := by
 rw [show m - k = m - (k + 1) + 1 by omega]
 conv => lhs; unfold nxF
 rw [if_neg (by simp [hc])]
theorem nxF_le {c : Nat → Bool} {m : Nat} : ∀ {f k : Nat}, f = m - k → k ≤ m → k ≤ nxF c f k ∧ nxF c f k ≤ m
 | 0, k, h, h' => by unfold nxF; omega
 | f + 1, k, h, h' => by
  unfold nxF
  split
  ·omega
  ·have := nxF_le (c := c) (m := m) (f := f) (k := k + 1) (by omega) (by omega); omega
theorem nxF_min {c : Nat → Bool} {m j : Nat} (hj : j < m) (hc : c j = true) : ∀ {f k : Nat}, f = m - k → k ≤ j → nxF c f k ≤ j ∧ c (nxF c f k) = true
 | 0, k, h, h' => by omega
 | f + 1, k, h, h' => by
  unfold nxF
  split
  ·rename_i h2; exact ⟨h', h2⟩
  ·rename_i h2
   have : k ≠ j := fun e => by subst e; exact h2 hc
   exact nxF_min hj hc (by omega) (by omega)
def inB (z t : Sc) : Bool := decide (t.k = z.k ∧ t.c = z.c ∧ t.q = z.q ∧ t.a ≤ z.a ∧ z.b ≤ t.b)
def inF (s t : Nat → Sc) (m : Nat) : Nat → Nat → Nat → Bool
 | 0, _, _ => true
 | f + 1, i, k => if nxF (fun j => inB (s i) (t j)) (m - k) k = m then false else inF s t m f (i + 1) (nxF (fun j => inB (s i) (t j)) (m - k) k + 1)
theorem inF_end {s t : Nat → Sc} {n m i k : Nat} (h : n ≤ i) : inF s t m (n - i) i k = true := by
 rw [show n - i = 0 by omega]; rfl
theorem inF_step {s t : Nat → Sc} {n m i k : Nat} (h : i < n) : inF s t m (n - i) i k = if nxF (fun j => inB (s i) (t j)) (m - k) k = m then false else inF s t m (n - (i + 1)) (i + 1) (nxF (fun j => inB (s i) (t j)) (m - k) k + 1) := by
 rw [show n - i = n - (i + 1) + 1 by omega]
 conv => lhs; unfold inF
theorem inF_of {s t : Nat → Sc} {n m : Nat} {p : Nat → Nat} (hp : ∀ i, i < n → p i < m ∧ inB (s i) (t (p i)) = true) (hm : ∀ i, i + 1 < n → p i < p (i + 1)) : ∀ {f i k : Nat}, f = n - i → (i < n → k ≤ p i) → k ≤ m → inF s t m f i k = true
 | 0, i, k, h, h1, h2 => rfl
 | f + 1, i, k, h, h1, h2 => by
  obtain ⟨a1, a2⟩ := hp i (by omega)
  obtain ⟨b1, b2⟩ := nxF_min (c := fun j => inB (s i) (t j)) a1 a2 (f := m - k) (k := k) rfl (h1 (by omega))
  unfold inF
  rw [if_neg (by omega)]
  refine inF_of hp hm (by omega) (fun h3 => ?_) (by omega)
  have := hm i (by omega)
  omega
def ins (n m : Nat) (s t : Nat → Sc) : Bool := inF s t m n 0 0
inductive Sub : List Sc → List Sc → Prop
 | nil (b : List Sc) : Sub [] b
 | skip {a b : List Sc} (y : Sc) (h : Sub a b) : Sub a (y :: b)
 | cons {a b : List Sc} {x y : Sc} (hx : inB x y = true) (h : Sub a b) : Sub (x :: a) (y :: b)
theorem Sub.app {a b a' b' : List Sc} (h : Sub a b) (h' : Sub a' b') : Sub (a ++ a') (b ++ b') := by
 induction h with
 | nil b =>
  induction b with
  | nil => exact h'
  | cons y b ih => exact .skip y ih
 | skip y h ih => exact .skip y ih
 | cons hx h ih => exact .cons hx ih
theorem Sub.one {x y : Sc} (h : inB x y = true) : Sub [x] [y] := .cons h (.nil [])
theorem Sub.map {a b : List Sc} (h : Sub a b) : ∃ p : Nat → Nat, (∀ i, i < a.length → p i < b.length ∧ inB (scR a i) (scR b (p i)) = true) ∧ ∀ i, i + 1 < a.length → p i < p (i + 1) := by
 induction h with
 | nil b => exact ⟨fun _ => 0, fun i h => by simp at h, fun i h => by simp at h⟩
 | skip y h ih =>
  obtain ⟨p, h1, h2⟩ := ih
  exact ⟨fun i => p i + 1, fun i hi => ⟨by have := (h1 i hi).1; simp; omega, (h1 i hi).2⟩, fun i hi => by have := h2 i hi; simp only []; omega⟩
 | cons hx h ih =>
  obtain ⟨p, h1, h2⟩ := ih
  refine ⟨fun i => match i with | 0 => 0 | i + 1 => p i + 1, fun i hi => ?_, fun i hi => ?_⟩
  ·cases i with
   | zero => exact ⟨by simp, hx⟩
   | succ i =>
    simp only [List.length_cons] at hi
    exact ⟨by have := (h1 i (by omega)).1; simp; omega, (h1 i (by omega)).2⟩
  ·cases i with
   | zero => simp
   | succ i =>
    simp only [List.length_cons] at hi
    have := h2 i (by omega)
    simp only []; omega
theorem inF_congr {s s' t t' : Nat → Sc} {n m : Nat} (hs : ∀ i, i < n → s i = s' i) (ht : ∀ i, i < m → t i = t' i) : ∀ {f i k : Nat}, f = n - i → k ≤ m → inF s t m f i k = inF s' t' m f i k
 | 0, i, k, h, h1 => rfl
 | f + 1, i, k, h, h1 => by
  have e : ∀ {g j : Nat}, g = m - j → j ≤ m → nxF (fun j => inB (s i) (t j)) g j = nxF (fun j => inB (s' i) (t' j)) g j := by
   intro g
   induction g with
   | zero => intro j _ _; rfl
   | succ g ih =>
    intro j h2 h3
    unfold nxF
    rw [hs i (by omega), ht j (by omega), ← hs i (by omega), ih (by omega) (by omega), hs i (by omega)]
  have hb := nxF_le (c := fun j => inB (s' i) (t' j)) (m := m) (f := m - k) (k := k) rfl h1
  unfold inF
  rw [e rfl h1]
  split
  ·rfl
  ·exact inF_congr hs ht (by omega) (by omega)
theorem Sub.ins {a b : List Sc} (h : Sub a b) : ins a.length b.length (scR a) (scR b) = true := by
 obtain ⟨p, h1, h2⟩ := h.map
 exact inF_of h1 h2 rfl (fun _ => Nat.zero_le _) (Nat.zero_le _)
theorem ins_congr {n m : Nat} {s s' t t' : Nat → Sc} (hs : ∀ i, i < n → s i = s' i) (ht : ∀ i, i < m → t i = t' i) : ins n m s t = ins n m s' t' := inF_congr hs ht rfl (Nat.zero_le _)
theorem fmL_all {s : Nat → Sc} : ∀ n, fmL (fun i => some (s i)) n = (List.range n).map s
 | 0 => rfl
 | n + 1 => by unfold fmL; rw [fmL_all n, List.range_succ, List.map_append]; rfl
theorem scR_row {s : Nat → Sc} {n i : Nat} (h : i < n) : scR ((List.range n).map s) i = s i := by
 unfold scR
 rw [List.getD_eq_getElem?_getD, List.getElem?_map, List.getElem?_range h]
 rfl
theorem fm_sub {o o' : Nat → Option Sc} : ∀ {n : Nat}, (∀ i, i < n → ∀ z, o i = some z → ∃ y, o' i = some y ∧ inB z y = true) → Sub (fmL o n) (fmL o' n)
 | 0, h => .nil _
 | n + 1, h => by
  have ih := fm_sub (o := o) (o' := o') (n := n) (fun i hi => h i (by omega))
  unfold fmL
  cases e : o n with
  | none =>
   cases e' : o' n with
   | none => exact ih
   | some y => have := ih.app (Sub.nil [y]); simpa using this
  | some z =>
   obtain ⟨y, hy, hz⟩ := h n (by omega) z e
   rw [hy]
   exact ih.app (Sub.one hz)
theorem fm_ins {o o' : Nat → Option Sc} {n : Nat} (h : ∀ i, i < n → ∀ z, o i = some z → ∃ y, o' i = some y ∧ inB z y = true) : ins (fmN o n) (fmN o' n) (fmR o n) (fmR o' n) = true := (fm_sub h).ins
theorem fm_in {o : Nat → Option Sc} {s : Nat → Sc} {n : Nat} (h : ∀ i, i < n → ∀ z, o i = some z → inB z (s i) = true) : ins (fmN o n) n (fmR o n) s = true := by
 have h1 := (fm_sub (o := o) (o' := fun i => some (s i)) (n := n) (fun i hi z hz => ⟨_, rfl, h i hi z hz⟩)).ins
 rw [fmL_all] at h1
 simp only [List.length_map, List.length_range] at h1
 rw [← h1]
 exact ins_congr (fun _ _ => rfl) (fun i hi => (scR_row hi).symm)
theorem inB_refl (z : Sc) : inB z z = true := by unfold inB; simp
theorem fmL_mem {o : Nat → Option Sc} {i : Nat} {z : Sc} (h : o i = some z) : ∀ {n : Nat}, i < n → z ∈ fmL o n
 | n + 1, hi => by
  unfold fmL
  by_cases c : i = n
  ·subst c; rw [h]; simp
  ·have := fmL_mem h (n := n) (by omega)
   cases o n with
   | none => exact this
   | some y => simp [this]
theorem fm_mem {o : Nat → Option Sc} {n i : Nat} {z : Sc} (hi : i < n) (h : o i = some z) : ∃ k, k < fmN o n ∧ fmR o n k = z := by
 obtain ⟨k, hk, e⟩ := List.getElem_of_mem (fmL_mem h hi)
 refine ⟨k, hk, ?_⟩
 unfold fmR scR
 rw [List.getD_eq_getElem?_getD, List.getElem?_eq_getElem hk, e]
 rfl
end Go.Proofs.Ytoncoofmijjgeaa.M
namespace Go.Proofs.Ytoncoofmijjgeaa.M
def into (a b u:Int):Int:=a+Int.tmod u (b-a+1)
theorem into_in {a b u:Int} (h:a≤b) (hu:0≤u):a≤into a b u∧into a b u≤b:=by
 unfold into
 have h1:=Int.tmod_nonneg (b-a+1) hu
 have h2:=Int.tmod_lt_of_pos u (show 0<b-a+1 by omega)
 omega
end Go.Proofs.Ytoncoofmijjgeaa.M
namespace Go.Proofs.Ytoncoofmijjgeaa.Sep
open Go
set_option linter.unusedVariables false
set_option linter.unusedSimpArgs false
def e44:List SV→Option (List Prop × SV)
 | [.agg [.int .i64 a,.int .i64 b],.int .u32 u]=>some ([a≤b,-1000000000000≤a,b≤1000000000000,0≤u,u<4294967296],SI (M.into a b u))
 | _=>none
def Rr44 (a b u:Int):Prop:=R64 u∧R64 (b-a)∧R64 (b-a+(1:Int))∧b-a+(1:Int)≠(0:Int)∧R64 (a+Int.tmod u (b-a+(1:Int)))∧a+Int.tmod u (b-a+(1:Int))=M.into a b u
theorem r44 (a b u:Int):V true [] [] Try.f44 [0,1,2,4] [] [.agg [SI a,SI b],.int .u32 u] (SI (M.into a b u))=Rr44 a b u:=by kernel_rfl
theorem br44 (a b u:Int) (hp:(a≤b)∧(-1000000000000≤a)∧(b≤1000000000000)∧(0≤u)∧(u<4294967296)∧AllP []):Rr44 a b u:=by
 unfold Rr44
 obtain ⟨h1,h2,h3,h4,h5,-⟩:=id hp
 have h6:=M.into_in h1 h4
 unfold M.into at *
 simp
 simp [R64]
 omega
theorem s44:PureOK PP 44 e44:=by
 intro xs ps res h hp
 unfold e44 at h
 split at h
 ·rename_i a b u
  cases h
  simp only [AllP.cons] at hp
  exact enterH (Hold.of (r44 a b u) (br44 a b u hp)) (.nil) (.nil) (k:=44) (by kernel_rfl) (by kernel_rfl) (fun _=>.nil)
 ·cases h
def lp23b (n m:Nat) (sk sc sq sa sb:Nat→Int) (tk tc tq ta tb:Nat→Int) (i k0:Nat):LoopS where
 ι:=Nat
 β:=Nat
 pre k:=k≤m∧i<n∧n≤100000∧m≤100000
 μ k:=m-k
 next k _ _ _:=k+1
 out k:=M.nxF (fun j=>M.inB (M.Sc.mk (sk i) (sc i) (sq i) (sa i) (sb i)) ((fun i=>M.Sc.mk (tk i) (tc i) (tq i) (ta i) (tb i)) j)) (m-k) k
 early _:=false
 SA k:=[(0,.sl 5 n (fun j=>[SI (sk j),SI (sc j),SI (sq j),SI (sa j),SI (sb j)])),(1,.sl 5 m (fun j=>[SI (tk j),SI (tc j),SI (tq j),SI (ta j),SI (tb j)])),(4,.bool false),(5,SI k),(6,SI i)]
 SH _:=[]
 n0:=0
 NA k:=[(0,.sl 5 n (fun j=>[SI (sk j),SI (sc j),SI (sq j),SI (sa j),SI (sb j)])),(1,.sl 5 m (fun j=>[SI (tk j),SI (tc j),SI (tq j),SI (ta j),SI (tb j)])),(4,.bool false),(5,SI k),(6,SI i)]
 NH _:=[]
 n1:=0
 RA _:=[]
 RH _:=[]
def Rq23b (n m:Nat) (sk sc sq sa sb:Nat→Int) (tk tc tq ta tb:Nat→Int) (i k0:Nat) (k:Nat):Prop:=(fun (z7 z13:Int) (z24:Nat) (z9:Nat→Nat→Nat) (z11 z12:Prop)=>(fun (z1:Bool) (z8 z16:Nat) (z19 z20 z21 z23:Prop)=>(fun (z0:Bool) (z2 z4 z22:Prop)=>(fun (z10:Bool) (z3 z5 z6 z17 z18:Prop)=>(fun (z14 z15:Prop)=>z6∧z6∧(z22→z20)∧(z22→z19)∧z6∧z6∧(z22→z8<m)∧z6∧z6∧(z22→z23)∧(z22→z21)∧z6∧z6∧(z22→z16<n)∧z6∧z6∧z6∧z17∧z17∧(z4→z20)∧(z4→z19)∧z17∧z17∧(z4→z8<m)∧z17∧z17∧(z4→z23)∧(z4→z21)∧z17∧z17∧(z4→z16<n)∧z17∧z17∧z6∧(z22→(!decide (tk z8=sk z16))=false→z4)∧z6∧z18∧z18∧(z2→z20)∧(z2→z19)∧z18∧z18∧(z2→z8<m)∧z18∧z18∧(z2→z23)∧(z2→z21)∧z18∧z18∧(z2→z16<n)∧z18∧z18∧z6∧(z22→(bif !decide (tk z8=sk z16) then true else !decide (tc z8=sc z16))=false→z2)∧z6∧z14∧z14∧(z5→z20)∧(z5→z19)∧z14∧z14∧z14∧(z5→z8<m)∧z14∧z14∧(z5→z23)∧(z5→z21)∧z14∧z14∧z14∧(z5→z16<n)∧z14∧z14∧z6∧(z22→z0=false→z5)∧z6∧z15∧z15∧(z3→z20)∧(z3→z19)∧z15∧z15∧z15∧(z3→z8<m)∧z15∧z15∧(z3→z23)∧(z3→z21)∧z15∧z15∧z15∧(z3→z16<n)∧z15∧z15∧z6∧(z22→(bif z0 then true else decide (sa z16<ta z8))=false→z3)∧z6∧(z10=true→R64 (z13+(1:Int))∧(z24≤m∧i<n∧n≤(100000:Nat)∧m≤(100000:Nat))∧m-z24<m-k∧z9 (m-z24) z24=z9 (m-k) k∧z11∧z12∧false=false∧z13+(1:Int)=(↑z24:Int)∧z7=z7∧True)∧(z10=false→false=false∧z11∧z12∧false=false∧z13=(↑(z9 (m-k) k):Int)∧z7=z7∧True)) (z5→z5) (z3→z3)) (bif z1 then bif bif z0 then true else decide (sa z16<ta z8) then true else decide (tb z8<sb z16) else false) ((z1 && !bif z0 then true else decide (sa z16<ta z8))=true) ((z1 && !z0)=true) (z22→z22) (z4→z4) (z2→z2)) (bif bif !decide (tk z8=sk z16) then true else !decide (tc z8=sc z16) then true else !decide (tq z8=sq z16)) ((z1 && !bif !decide (tk z8=sk z16) then true else !decide (tc z8=sc z16))=true) ((z1 && !!decide (tk z8=sk z16))=true) (z1=true)) (decide (z13<(↑m:Int))) (Int.toNat z13) (Int.toNat z7) (z13<(↑m:Int)) ((0:Int)≤z13) (z7<(↑n:Int)) ((0:Int)≤z7)) (↑i:Int) (↑k:Int) (k+(1:Nat)) (M.nxF (fun j=>M.inB (M.Sc.mk (sk i) (sc i) (sq i) (sa i) (sb i)) (M.Sc.mk (tk j) (tc j) (tq j) (ta j) (tb j)))) (n=n∧∀ (k:Nat),k<n→sk k=sk k∧sc k=sc k∧sq k=sq k∧sa k=sa k∧sb k=sb k) (m=m∧∀ (k:Nat),k<m→tk k=tk k∧tc k=tc k∧tq k=tq k∧ta k=ta k∧tb k=tb k)
theorem q23b (n m:Nat) (sk sc sq sa sb:Nat→Int) (tk tc tq ta tb:Nat→Int) (i k0:Nat) (k:Nat):VL true [] [] YS.none Try.f23 0 [0,1,4,5,6,10,85,91] [] 2 (lp23b n m sk sc sq sa sb tk tc tq ta tb i k0) (k)=Rq23b n m sk sc sq sa sb tk tc tq ta tb i k0 k:=by kernel_rfl
theorem peq23b (n m:Nat) (sk sc sq sa sb:Nat→Int) (tk tc tq ta tb:Nat→Int) (i k0:Nat) (k:Nat):(lp23b n m sk sc sq sa sb tk tc tq ta tb i k0).pre (k)=(k≤m∧i<n∧n≤(100000:Nat)∧m≤(100000:Nat)):=by kernel_rfl
theorem bq23b (n m:Nat) (sk sc sq sa sb:Nat→Int) (tk tc tq ta tb:Nat→Int) (i k0:Nat) (k:Nat) (hp:k≤m∧i<n∧n≤(100000:Nat)∧m≤(100000:Nat)):Rq23b n m sk sc sq sa sb tk tc tq ta tb i k0 k:=by
 unfold Rq23b
 dsimp -iota -proj -eta -zeta only
 obtain ⟨h1,h2,h3,h4⟩:=id hp
 have r1:R64 ((k:Int)+1):=by unfold R64; omega
 simp only [Int.toNat_natCast,r1]
 by_cases hl:k<m
 ·have hl':(k:Int)<m:=by omega
  have h2':(i:Int)<n:=by omega
  cases hc:(fun j=>M.inB (M.Sc.mk (sk i) (sc i) (sq i) (sa i) (sb i)) ((fun i=>M.Sc.mk (tk i) (tc i) (tq i) (ta i) (tb i)) j)) k with
  | true =>
   rw [M.nxF_stop hl hc]
   simp only [M.inB,decide_eq_true_eq] at hc
   obtain ⟨c1,c2,c3,c4,c5⟩:=hc
   simp [hl,hl',h2,h2',c1,c2,c3]
   omega
  | false =>
   rw [M.nxF_step hl hc]
   simp only [M.inB,decide_eq_false_iff_not] at hc
   by_cases c1:tk k=sk i
   ·by_cases c2:tc k=sc i
    ·by_cases c3:tq k=sq i
     ·by_cases c4:sa i<ta k
      ·simp [hl,hl',h2,h2',h3,h4,c1,c2,c3,c4]
       omega
      ·have c5:tb k<sb i:=by
        refine Decidable.byContradiction fun c=>hc ⟨c1,c2,c3,by omega,by omega⟩
       simp [hl,hl',h2,h2',h3,h4,c1,c2,c3,c4,c5]
       omega
     ·simp [hl,hl',h2,h2',h3,h4,c1,c2,c3]
      omega
    ·simp [hl,hl',h2,h2',h3,h4,c1,c2]
     omega
   ·simp [hl,hl',h2,h2',h3,h4,c1]
    omega
 ·have e:k=m:=by omega
  subst e
  rw [M.nxF_end (Nat.le_refl _)]
  simp
theorem t23b (n m:Nat) (sk sc sq sa sb:Nat→Int) (tk tc tq ta tb:Nat→Int) (i k0:Nat) {F:Fence} (hF:FOK F) (Y:YEnv PP YS.none):∀ Q A H nx,loopT false Try.f23.ntmps 0 (lp23b n m sk sc sq sa sb tk tc tq ta tb i k0) (fun _ _ _=>k0) Q A H nx→WPS Y F Try.f23.ntmps 0 (.block 2 (blkAt 2 Try.f23)) Q A H nx :=
 loopW (E:=[]) (.nil) (O:=[]) (.nil) (ck:=true) (L:=[0,1,4,5,6,10,85,91]) (f:=Try.f23) (m:=0) (id:=2) (l:=(lp23b n m sk sc sq sa sb tk tc tq ta tb i k0)) (LI:=fun i=>[]) Y hF (by kernel_rfl) (fun _=>.nil) (by
  rintro k hp
  exact Hold.of (q23b n m sk sc sq sa sb tk tc tq ta tb i k0 k) (bq23b n m sk sc sq sa sb tk tc tq ta tb i k0 k ((peq23b n m sk sc sq sa sb tk tc tq ta tb i k0 k).mp hp)))
def lp23 (n m:Nat) (sk sc sq sa sb:Nat→Int) (tk tc tq ta tb:Nat→Int):LoopS where
 ι:=Nat × Nat
 β:=Bool
 pre s:=s.1≤n∧s.2≤m∧n≤100000∧m≤100000
 μ s:=n-s.1
 next s _ _ _:=(s.1+1,M.nxF (fun j=>M.inB (M.Sc.mk (sk s.1) (sc s.1) (sq s.1) (sa s.1) (sb s.1)) ((fun i=>M.Sc.mk (tk i) (tc i) (tq i) (ta i) (tb i)) j)) (m-s.2) s.2+1)
 out s:=M.inF (fun i=>M.Sc.mk (sk i) (sc i) (sq i) (sa i) (sb i)) (fun i=>M.Sc.mk (tk i) (tc i) (tq i) (ta i) (tb i)) m (n-s.1) s.1 s.2
 early q:=!q
 SA s:=[(0,.sl 5 n (fun j=>[SI (sk j),SI (sc j),SI (sq j),SI (sa j),SI (sb j)])),(1,.sl 5 m (fun j=>[SI (tk j),SI (tc j),SI (tq j),SI (ta j),SI (tb j)])),(4,.bool false),(5,SI s.2),(6,SI s.1)]
 SH _:=[]
 n0:=0
 NA _:=[]
 NH _:=[]
 n1:=0
 RA q:=[(4,.bool false)]
 RH _:=[]
def Rq23 (n m:Nat) (sk sc sq sa sb:Nat→Int) (tk tc tq ta tb:Nat→Int) (i k:Nat):Prop:=(fun (z5:Int) (z0 z4:Nat) (z1:Nat→Nat→Nat→Bool) (z2 z3 z6 z9:Prop)=>(fun (z7 z8:Bool)=>(decide (z5<(↑n:Int))=true→(k≤m∧i<n∧z6)∧(z2∧z3∧z9∧(↑k:Int)=(↑k:Int)∧z5=z5∧True)∧(z9→(z8=true→(!z7)=true∧z9∧True)∧(z8=false→R64 ((↑z0:Int)+(1:Int))∧R64 (z5+(1:Int))∧(z4≤n∧z0+(1:Nat)≤m∧z6)∧n-z4<n-i∧z1 (n-z4) z4 (z0+(1:Nat))=z7∧z2∧z3∧z9∧(↑z0:Int)+(1:Int)=(↑(z0+(1:Nat)):Int)∧z5+(1:Int)=(↑z4:Int)∧True))∧(false=true→(!z7)=true∧False∧True))∧(decide (z5<(↑n:Int))=false→(!z7)=false∧True)) (z1 (n-i) i k) (decide ((↑z0:Int)=(↑m:Int)))) (↑i:Int) (M.nxF (fun j=>M.inB (M.Sc.mk (sk i) (sc i) (sq i) (sa i) (sb i)) (M.Sc.mk (tk j) (tc j) (tq j) (ta j) (tb j))) (m-k) k) (i+(1:Nat)) (M.inF (fun i=>M.Sc.mk (sk i) (sc i) (sq i) (sa i) (sb i)) (fun i=>M.Sc.mk (tk i) (tc i) (tq i) (ta i) (tb i)) m) (n=n∧∀ (k:Nat),k<n→sk k=sk k∧sc k=sc k∧sq k=sq k∧sa k=sa k∧sb k=sb k) (m=m∧∀ (k:Nat),k<m→tk k=tk k∧tc k=tc k∧tq k=tq k∧ta k=ta k∧tb k=tb k) (n≤(100000:Nat)∧m≤(100000:Nat)) (false=false)
theorem q23 (n m:Nat) (sk sc sq sa sb:Nat→Int) (tk tc tq ta tb:Nat→Int) (i k:Nat):VL true [] [] YS.none Try.f23 0 [0,1,4,5,6,10,85,91] [(2,loopT false Try.f23.ntmps 0 (lp23b n m sk sc sq sa sb tk tc tq ta tb i k) (fun _ _ _=>k))] 0 (lp23 n m sk sc sq sa sb tk tc tq ta tb) ((i,k))=Rq23 n m sk sc sq sa sb tk tc tq ta tb i k:=by kernel_rfl
theorem peq23 (n m:Nat) (sk sc sq sa sb:Nat→Int) (tk tc tq ta tb:Nat→Int) (i k:Nat):(lp23 n m sk sc sq sa sb tk tc tq ta tb).pre ((i,k))=(i≤n∧k≤m∧n≤(100000:Nat)∧m≤(100000:Nat)):=by kernel_rfl
theorem bq23 (n m:Nat) (sk sc sq sa sb:Nat→Int) (tk tc tq ta tb:Nat→Int) (i k:Nat) (hp:i≤n∧k≤m∧n≤(100000:Nat)∧m≤(100000:Nat)):Rq23 n m sk sc sq sa sb tk tc tq ta tb i k:=by
 unfold Rq23
 dsimp -iota -proj -eta -zeta only
 obtain ⟨h1,h2,h3,h4⟩:=id hp
 have r1:R64 ((i:Int)+1):=by unfold R64; omega
 have hb:=M.nxF_le (c:=(fun j=>M.inB (M.Sc.mk (sk i) (sc i) (sq i) (sa i) (sb i)) ((fun i=>M.Sc.mk (tk i) (tc i) (tq i) (ta i) (tb i)) j))) (m:=m) (f:=m-k) (k:=k) rfl h2
 obtain ⟨y,hy⟩ : ∃ y,y=M.nxF (fun j=>M.inB (M.Sc.mk (sk i) (sc i) (sq i) (sa i) (sb i)) ((fun i=>M.Sc.mk (tk i) (tc i) (tq i) (ta i) (tb i)) j)) (m-k) k:=⟨_,rfl⟩
 have r2:R64 ((y:Int)+1):=by unfold R64; omega
 simp only [Int.toNat_natCast,← hy,r1,r2]
 rw [← hy] at hb
 by_cases hl:i<n
 ·have hl':(i:Int)<n:=by omega
  have e:=M.inF_step (s:=(fun i=>M.Sc.mk (sk i) (sc i) (sq i) (sa i) (sb i))) (t:=(fun i=>M.Sc.mk (tk i) (tc i) (tq i) (ta i) (tb i))) (m:=m) (k:=k) hl
  simp only [← hy] at e
  rw [e]
  by_cases hc:y=m
  ·have hc':(y:Int)=m:=by omega
   simp [hl,hl',hc,h2,h3,h4]
  ·have hc':¬ (y:Int)=m:=by omega
   simp [hl,hl',hc,hc',h2,h3,h4]
   omega
 ·have e:i=n:=by omega
  subst e
  rw [M.inF_end (Nat.le_refl _)]
  simp
theorem t23 (n m:Nat) (sk sc sq sa sb:Nat→Int) (tk tc tq ta tb:Nat→Int) {F:Fence} (hF:FOK F) (Y:YEnv PP YS.none):∀ Q A H nx,loopT false Try.f23.ntmps 0 (lp23 n m sk sc sq sa sb tk tc tq ta tb) (fun _ _ _=>((0:Nat),(0:Nat))) Q A H nx→WPS Y F Try.f23.ntmps 0 (.block 0 (blkAt 0 Try.f23)) Q A H nx :=
 loopW (E:=[]) (.nil) (O:=[]) (.nil) (ck:=true) (L:=[0,1,4,5,6,10,85,91]) (f:=Try.f23) (m:=0) (id:=0) (l:=(lp23 n m sk sc sq sa sb tk tc tq ta tb)) (LI:=fun | (i,k)=>[(2,loopT false Try.f23.ntmps 0 (lp23b n m sk sc sq sa sb tk tc tq ta tb i k) (fun _ _ _=>k))]) Y hF (by kernel_rfl) (fun | (i,k)=>.cons (by kernel_rfl) (t23b n m sk sc sq sa sb tk tc tq ta tb i k hF Y) (.nil)) (by
  rintro ⟨i,k⟩ hp
  exact Hold.of (q23 n m sk sc sq sa sb tk tc tq ta tb i k) (bq23 n m sk sc sq sa sb tk tc tq ta tb i k ((peq23 n m sk sc sq sa sb tk tc tq ta tb i k).mp hp)))
def e23:List SV→Option (List Prop × SV)
 | [.sl 5 n g_1,.sl 5 m g_2]=>some ([Row 5 n g_1,Row 5 m g_2,n≤100000,m≤100000],.bool (M.ins n m (fun i=>M.Sc.mk ((cI g_1 0) i) ((cI g_1 1) i) ((cI g_1 2) i) ((cI g_1 3) i) ((cI g_1 4) i)) (fun i=>M.Sc.mk ((cI g_2 0) i) ((cI g_2 1) i) ((cI g_2 2) i) ((cI g_2 3) i) ((cI g_2 4) i))))
 | _=>none
def Rr23 (n m:Nat) (sk sc sq sa sb:Nat→Int) (tk tc tq ta tb:Nat→Int):Prop:=(fun (z2:Nat) (z0 z1:Nat→M.Sc)=>(fun (z3:Bool)=>(z2≤n∧z2≤m∧n≤(100000:Nat)∧m≤(100000:Nat))∧((n=n∧∀ (k:Nat),k<n→sk k=sk k∧sc k=sc k∧sq k=sq k∧sa k=sa k∧sb k=sb k)∧(m=m∧∀ (k:Nat),k<m→tk k=tk k∧tc k=tc k∧tq k=tq k∧ta k=ta k∧tb k=tb k)∧false=false∧(0:Int)=(↑z2:Int)∧(0:Int)=(↑z2:Int)∧True)∧(z3=false→true=M.ins n m z0 z1)∧(z3=true→false=M.ins n m z0 z1)) (!M.inF z0 z1 m (n-z2) z2 z2)) (0:Nat) (fun i=>M.Sc.mk (sk i) (sc i) (sq i) (sa i) (sb i)) (fun i=>M.Sc.mk (tk i) (tc i) (tq i) (ta i) (tb i))
theorem r23 (n m:Nat) (sk sc sq sa sb:Nat→Int) (tk tc tq ta tb:Nat→Int):V true [] [] Try.f23 [0,1,4,5,6,10,85,91] [(0,loopT false Try.f23.ntmps 0 (lp23 n m sk sc sq sa sb tk tc tq ta tb) (fun _ _ _=>((0:Nat),(0:Nat))))] [.sl 5 n (fun k=>[SI (sk k),SI (sc k),SI (sq k),SI (sa k),SI (sb k)]),.sl 5 m (fun k=>[SI (tk k),SI (tc k),SI (tq k),SI (ta k),SI (tb k)])] (.bool (M.ins n m (fun i=>M.Sc.mk (sk i) (sc i) (sq i) (sa i) (sb i)) (fun i=>M.Sc.mk (tk i) (tc i) (tq i) (ta i) (tb i))))=Rr23 n m sk sc sq sa sb tk tc tq ta tb:=by kernel_rfl
theorem br23 (n m:Nat) (sk sc sq sa sb:Nat→Int) (tk tc tq ta tb:Nat→Int) (hp:(n≤100000)∧(m≤100000)∧AllP []):Rr23 n m sk sc sq sa sb tk tc tq ta tb:=by
 unfold Rr23
 dsimp -iota -proj -eta -zeta only
 obtain ⟨h1,h2,-⟩:=id hp
 unfold M.ins
 cases hq:M.inF (fun i=>M.Sc.mk (sk i) (sc i) (sq i) (sa i) (sb i)) (fun i=>M.Sc.mk (tk i) (tc i) (tq i) (ta i) (tb i)) m (n-0) 0 0 with
 | false=>simp [h1,h2,hq]
 | true=>simp [h1,h2,hq]
theorem s23:PureOK PP 23 e23:=by
 intro xs ps res h hp
 unfold e23 at h
 split at h
 ·rename_i n g_1 m g_2
  cases h
  simp only [AllP.cons] at hp
  obtain ⟨Hg_1,Hg_2,hp⟩:=hp
  exact Spec.args (enterH (Hold.of (r23 n m (cI g_1 0) (cI g_1 1) (cI g_1 2) (cI g_1 3) (cI g_1 4) (cI g_2 0) (cI g_2 1) (cI g_2 2) (cI g_2 3) (cI g_2 4)) (br23 n m (cI g_1 0) (cI g_1 1) (cI g_1 2) (cI g_1 3) (cI g_1 4) (cI g_2 0) (cI g_2 1) (cI g_2 2) (cI g_2 3) (cI g_2 4) hp)) (.nil) (.nil) (k:=23) (by kernel_rfl) (by kernel_rfl) (fun Y=>.cons (by kernel_rfl) (t23 n m (cI g_1 0) (cI g_1 1) (cI g_1 2) (cI g_1 3) (cI g_1 4) (cI g_2 0) (cI g_2 1) (cI g_2 2) (cI g_2 3) (cI g_2 4) FOK.wide Y) (.nil))) (.cons (.row Hg_1 fun _=>rfl) (.cons (.row Hg_2 fun _=>rfl) .nil))
 ·cases h
def e23t:List SV→Option (List Prop × SV)
 | [.sl 5 n g_1,.sl 5 m g_2]=>some ([Row 5 n g_1,Row 5 m g_2,n≤100000,m≤100000,M.ins n m (fun i=>M.Sc.mk (cI g_1 0 i) (cI g_1 1 i) (cI g_1 2 i) (cI g_1 3 i) (cI g_1 4 i)) (fun i=>M.Sc.mk (cI g_2 0 i) (cI g_2 1 i) (cI g_2 2 i) (cI g_2 3 i) (cI g_2 4 i))=true],.bool true)
 | _=>none
theorem s23t:PureOK PP 23 e23t:=by
 intro xs ps res h hp
 unfold e23t at h
 split at h
 ·rename_i n g_1 m g_2
  cases h
  simp only [AllP.cons] at hp
  obtain ⟨h1,h2,h3,h4,h5,-⟩:=hp
  have h6:=s23 [.sl 5 n g_1,.sl 5 m g_2] _ _ rfl (AllP.cons.2 ⟨h1,AllP.cons.2 ⟨h2,AllP.cons.2 ⟨h3,AllP.cons.2 ⟨h4,AllP.nil⟩⟩⟩⟩)
  rw [h5] at h6
  exact h6
 ·cases h
end Go.Proofs.Ytoncoofmijjgeaa.Sep
namespace Go.Proofs.Ytoncoofmijjgeaa.M
open Go
set_option linter.unusedVariables false
set_option linter.unusedSimpArgs false
namespace Gd
variable {g : Gd} {s s' : Nat → Sc} {f f' c : Int} {n n' i : Nat}
theorem slF_iff : ∀ {n : Nat}, g.slF s f c n = true ↔ ∃ j, j < n ∧ (s j).k = 1
 | 0 => ⟨fun h => by simp [slF, slP] at h, fun ⟨j, h, _⟩ => by omega⟩
 | n + 1 => by
  have ih := @slF_iff n
  by_cases h : (s n).k = 1
  ·refine ⟨fun _ => ⟨n, by omega, h⟩, fun _ => ?_⟩
   cases h2 : g.slF s f c n with
   | false => exact (sl_first h h2).1
   | true => exact (sl_next h h2).1
  ·rw [(sl_stay h).1, ih]
   constructor
   ·rintro ⟨j, h1, h2⟩; exact ⟨j, by omega, h2⟩
   ·rintro ⟨j, h1, h2⟩
    have : j ≠ n := fun e => h (e ▸ h2)
    exact ⟨j, by omega, h2⟩
theorem slU_iff {x : Int} : ∀ {n : Nat}, g.slF s f c n = true → ((g.slU s f c n ≤ x ↔ ∃ j, j < n ∧ (s j).k = 1 ∧ (s j).a + g.T0 (s j).c c ≤ x) ∧ (x ≤ g.slV s f c n ↔ ∃ j, j < n ∧ (s j).k = 1 ∧ x ≤ (s j).b + g.T1 (s j).c c + f))
 | 0, h => by simp [slF, slP] at h
 | n + 1, h => by
  by_cases hk : (s n).k = 1
  ·cases h2 : g.slF s f c n with
   | false =>
    have no : ¬ ∃ j, j < n ∧ (s j).k = 1 := fun e => by rw [slF_iff.2 e] at h2; cases h2
    obtain ⟨-, e1, e2⟩ := sl_first hk h2
    rw [e1, e2]
    constructor
    ·constructor
     ·intro h3; exact ⟨n, by omega, hk, h3⟩
     ·rintro ⟨j, h3, h4, h5⟩
      by_cases e : j = n
      ·subst e; exact h5
      ·exact absurd ⟨j, by omega, h4⟩ no
    ·constructor
     ·intro h3; exact ⟨n, by omega, hk, h3⟩
     ·rintro ⟨j, h3, h4, h5⟩
      by_cases e : j = n
      ·subst e; exact h5
      ·exact absurd ⟨j, by omega, h4⟩ no
   | true =>
    obtain ⟨i1, i2⟩ := slU_iff (x := x) h2
    obtain ⟨-, e1, e2⟩ := sl_next hk h2
    rw [e1, e2]
    constructor
    ·rw [show ∀ u v : Int, min u v ≤ x ↔ u ≤ x ∨ v ≤ x by intros; omega, i1]
     constructor
     ·rintro (⟨j, h3, h4⟩ | h3)
      ·exact ⟨j, by omega, h4⟩
      ·exact ⟨n, by omega, hk, h3⟩
     ·rintro ⟨j, h3, h4, h5⟩
      by_cases e : j = n
      ·subst e; exact .inr h5
      ·exact .inl ⟨j, by omega, h4, h5⟩
    ·rw [show ∀ u v : Int, x ≤ max u v ↔ x ≤ u ∨ x ≤ v by intros; omega, i2]
     constructor
     ·rintro (⟨j, h3, h4⟩ | h3)
      ·exact ⟨j, by omega, h4⟩
      ·exact ⟨n, by omega, hk, h3⟩
     ·rintro ⟨j, h3, h4, h5⟩
      by_cases e : j = n
      ·subst e; exact .inr h5
      ·exact .inl ⟨j, by omega, h4, h5⟩
  ·obtain ⟨e0, e1, e2, -⟩ := sl_stay (g := g) (s := s) (f := f) (c := c) hk
   rw [e0] at h
   obtain ⟨i1, i2⟩ := slU_iff (x := x) h
   rw [e1, e2, i1, i2]
   have key : ∀ {Q : Nat → Prop}, (∃ j, j < n ∧ (s j).k = 1 ∧ Q j) ↔ ∃ j, j < n + 1 ∧ (s j).k = 1 ∧ Q j := fun {Q} => by
    constructor
    ·rintro ⟨j, h1, h2⟩; exact ⟨j, by omega, h2⟩
    ·rintro ⟨j, h1, h2, h3⟩
     have : j ≠ n := fun e => hk (e ▸ h2)
     exact ⟨j, by omega, h2, h3⟩
   exact ⟨key, key⟩
theorem slO_wide {z : Sc} {i i' : Nat} (hs : s' i' = s i) (hf : f ≤ f') (hq : ∀ j, j < n → (s j).k = 1 → ∃ j', j' < n' ∧ s' j' = s j) (h : g.slO s f n i = some z) : ∃ y, g.slO s' f' n' i' = some y ∧ inB z y = true := by
 by_cases h2 : (s i).k = 2
 ·rw [slO_ref h2] at h
  split at h
  ·rename_i h3
   obtain ⟨h3, h4⟩ := h3
   cases h
   obtain ⟨j0, q1, q2⟩ := slF_iff.1 h3
   obtain ⟨j1, q3, q4⟩ := hq j0 q1 q2
   have h3' : g.slF s' f' (s' i').c n' = true := slF_iff.2 ⟨j1, q3, by rw [q4]; exact q2⟩
   have u : g.slU s' f' (s i).c n' ≤ g.slU s f (s i).c n := by
    obtain ⟨j, k1, k2, k3⟩ := (slU_iff h3).1.1 (Int.le_refl _)
    obtain ⟨j', k4, k5⟩ := hq j k1 k2
    rw [hs] at h3'
    exact (slU_iff h3').1.2 ⟨j', k4, by rw [k5]; exact k2, by rw [k5]; exact k3⟩
   have v : g.slV s f (s i).c n ≤ g.slV s' f' (s i).c n' := by
    obtain ⟨j, k1, k2, k3⟩ := (slU_iff h3).2.1 (Int.le_refl _)
    obtain ⟨j', k4, k5⟩ := hq j k1 k2
    rw [hs] at h3'
    exact (slU_iff h3').2.2 ⟨j', k4, by rw [k5]; exact k2, by rw [k5]; omega⟩
   rw [slO_ref (by rw [hs]; exact h2), hs]
   rw [hs] at h3'
   rw [if_pos ⟨h3', by omega⟩]
   refine ⟨_, rfl, ?_⟩
   unfold inB
   simp only [decide_eq_true_eq, true_and]
   omega
  ·cases h
 ·rw [slO_other h2] at h
  cases h
  refine ⟨s' i', slO_other (by rw [hs]; exact h2), ?_⟩
  rw [hs]; exact inB_refl _
theorem slO_in {z : Sc} {i : Nat} (h : g.slO s f n i = some z) : inB z (s i) = true := by
 by_cases h2 : (s i).k = 2
 ·rw [slO_ref h2] at h
  split at h
  ·cases h
   unfold inB
   simp only [decide_eq_true_eq, true_and]
   omega
  ·cases h
 ·rw [slO_other h2] at h
  cases h
  exact inB_refl _
theorem slO_at {t : Int} {i j : Nat} (h2 : (s i).k = 2) (hj : j < n) (h1 : (s j).k = 1) (a1 : (s j).a + g.T0 (s j).c (s i).c ≤ t) (a2 : t ≤ (s j).b + g.T1 (s j).c (s i).c + f) (b1 : (s i).a ≤ t) (b2 : t ≤ (s i).b) :
  ∃ z, g.slO s f n i = some z ∧ z.k = (s i).k ∧ z.c = (s i).c ∧ z.q = (s i).q ∧ z.a ≤ t ∧ t ≤ z.b := by
 have h3 : g.slF s f (s i).c n = true := slF_iff.2 ⟨j, hj, h1⟩
 have u := (slU_iff (x := t) h3).1.2 ⟨j, hj, h1, a1⟩
 have v := (slU_iff (x := t) h3).2.2 ⟨j, hj, h1, a2⟩
 rw [slO_ref h2, if_pos ⟨h3, by omega⟩]
 exact ⟨_, rfl, rfl, rfl, rfl, by simp only; omega, by simp only; omega⟩
end Gd
def delS (p : Nat) (s : Nat → Sc) : Nat → Sc := fun k => if k < p then s k else s (k + 1)
theorem del_sub {o o' : Nat → Option Sc} {p : Nat} (h : ∀ i z, o' i = some z → ∃ y, o (if i < p then i else i + 1) = some y ∧ inB z y = true) : ∀ {n : Nat}, (n ≤ p → Sub (fmL o' n) (fmL o n)) ∧ (p ≤ n → Sub (fmL o' n) (fmL o (n + 1)))
 | 0 => ⟨fun _ => .nil _, fun _ => .nil _⟩
 | n + 1 => by
  obtain ⟨i1, i2⟩ := del_sub h (n := n)
  have step : ∀ {b : List Sc} {m : Nat}, m = (if n < p then n else n + 1) → Sub (fmL o' n) b → Sub (fmL o' (n + 1)) (match o m with | some z => b ++ [z] | none => b) := fun {b m} hm hb => by
   conv => arg 1; unfold fmL
   cases e : o' n with
   | none =>
    cases e' : o m with
    | none => exact hb
    | some y => have := hb.app (Sub.nil [y]); simpa using this
   | some z =>
    obtain ⟨y, hy, hz⟩ := h n z e
    rw [hm, hy]
    exact hb.app (Sub.one hz)
  constructor
  ·intro hp
   have := step (m := n) (by rw [if_pos (by omega)]) (i1 (by omega))
   conv => arg 2; unfold fmL
   exact this
  ·intro hp
   by_cases c : n < p
   ·have e : p = n + 1 := by omega
    have := step (m := n) (by rw [if_pos c]) (i1 (by omega))
    have h3 : Sub (fmL o' (n + 1)) (fmL o (n + 1)) := by
     conv => arg 2; unfold fmL
     exact this
    conv => arg 2; unfold fmL
    cases o (n + 1) with
    | none => exact h3
    | some y => have := h3.app (Sub.nil [y]); simpa using this
   ·have := step (m := n + 1) (by rw [if_neg c]) (i2 (by omega))
    conv => arg 2; unfold fmL
    exact this
theorem del_ins {g : Gd} {s : Nat → Sc} {f : Int} {n p : Nat} (hp : p < n) : ins (fmN (g.slO (delS p s) f (n - 1)) (n - 1)) (fmN (g.slO s f n) n) (fmR (g.slO (delS p s) f (n - 1)) (n - 1)) (fmR (g.slO s f n) n) = true := by
 have h := (del_sub (o := g.slO s f n) (o' := g.slO (delS p s) f (n - 1)) (p := p) (fun i z hz => ?_) (n := n - 1)).2 (by omega)
 ·rw [show n - 1 + 1 = n by omega] at h
  exact h.ins
 ·refine Gd.slO_wide (s := delS p s) (s' := s) (f := f) (f' := f) (n := n - 1) (n' := n) (i := i) ?_ (Int.le_refl _) (fun j hj hk => ?_) hz
  ·unfold delS; split <;> rfl
  ·unfold delS
   split
   ·exact ⟨j, by omega, rfl⟩
   ·exact ⟨j + 1, by omega, rfl⟩
end Go.Proofs.Ytoncoofmijjgeaa.M
namespace Go.Proofs.Ytoncoofmijjgeaa.M
def slN (g:Gd) (S:Nat→Sc) (f:Int) (n:Nat):Nat:=fmN (g.slO S f n) n
def slR (g:Gd) (S:Nat→Sc) (f:Int) (n:Nat):Nat→Sc:=fmR (g.slO S f n) n
def hitE (s:Sc) (t:Int) (R:Nat→Sc) (i:Nat):Int:=if (R i).k=s.k∧(R i).c=s.c∧(R i).q=s.q∧(R i).a≤t∧t≤(R i).b then 1 else 0
theorem slE_ok {g:Gd} {S:Nat→Sc} {f:Int} {n:Nat} : g.slE S f n=0↔(g.ok∧n≤256∧∀ i,i<n→g.Sok (S i))∧0≤f∧f≤100000000:=by
 unfold Gd.slE
 rw [← Gd.csE_ok]
 split
 ·rename_i h
  split
  ·rename_i h2; simp [h,h2]
  ·rename_i h2; simp [h,h2]
 ·rename_i h; simp [h]
end Go.Proofs.Ytoncoofmijjgeaa.M
namespace Go.Proofs.Ytoncoofmijjgeaa.Sep
open Go
set_option linter.unusedVariables false
set_option linter.unusedSimpArgs false
--#def R(S) (fun k => [SI (M.Sc.k ($S k)), SI (M.Sc.c ($S k)), SI (M.Sc.q ($S k)), SI (M.Sc.a ($S k)), SI (M.Sc.b ($S k))])
def e42t:List SV→Option (List Prop × SV)
 | [.agg [.int .i64 w,.int .i64 ht,.int .i64 s,.int .i64 v0,.int .i64 v1,.int .i64 d0,.int .i64 d1,.int .i64 r],.sl 5 n g_1,.int .i64 f]=>some ([Row 5 n g_1,n≤100000,M.Gd.slE (M.Gd.mk w ht s v0 v1 d0 d1 r) (fun i=>M.Sc.mk (cI g_1 0 i) (cI g_1 1 i) (cI g_1 2 i) (cI g_1 3 i) (cI g_1 4 i)) f n=0],.tup [.sl 5 (M.slN (M.Gd.mk w ht s v0 v1 d0 d1 r) (fun i=>M.Sc.mk (cI g_1 0 i) (cI g_1 1 i) (cI g_1 2 i) (cI g_1 3 i) (cI g_1 4 i)) f n) (fun k=>[SI (M.slR (M.Gd.mk w ht s v0 v1 d0 d1 r) (fun i=>M.Sc.mk (cI g_1 0 i) (cI g_1 1 i) (cI g_1 2 i) (cI g_1 3 i) (cI g_1 4 i)) f n k).k,SI (M.slR (M.Gd.mk w ht s v0 v1 d0 d1 r) (fun i=>M.Sc.mk (cI g_1 0 i) (cI g_1 1 i) (cI g_1 2 i) (cI g_1 3 i) (cI g_1 4 i)) f n k).c,SI (M.slR (M.Gd.mk w ht s v0 v1 d0 d1 r) (fun i=>M.Sc.mk (cI g_1 0 i) (cI g_1 1 i) (cI g_1 2 i) (cI g_1 3 i) (cI g_1 4 i)) f n k).q,SI (M.slR (M.Gd.mk w ht s v0 v1 d0 d1 r) (fun i=>M.Sc.mk (cI g_1 0 i) (cI g_1 1 i) (cI g_1 2 i) (cI g_1 3 i) (cI g_1 4 i)) f n k).a,SI (M.slR (M.Gd.mk w ht s v0 v1 d0 d1 r) (fun i=>M.Sc.mk (cI g_1 0 i) (cI g_1 1 i) (cI g_1 2 i) (cI g_1 3 i) (cI g_1 4 i)) f n k).b]),SI 0])
 | _=>none
theorem s42t:PureOK PP 42 e42t:=by
 intro xs ps res h hp
 unfold e42t at h
 split at h
 ·rename_i w ht s v0 v1 d0 d1 r n g_1 f
  cases h
  simp only [AllP.cons] at hp
  obtain ⟨h1,h2,h3,-⟩:=hp
  have h6:=s42 [.agg [.int .i64 w,.int .i64 ht,.int .i64 s,.int .i64 v0,.int .i64 v1,.int .i64 d0,.int .i64 d1,.int .i64 r],.sl 5 n g_1,.int .i64 f] _ _ rfl (AllP.cons.2 ⟨h1,AllP.cons.2 ⟨h2,AllP.nil⟩⟩)
  simp only [h3,if_true] at h6
  exact h6
 ·cases h
def e24t:List SV→Option (List Prop × SV)
 | [.agg [.int .i64 w,.int .i64 ht,.int .i64 s,.int .i64 v0,.int .i64 v1,.int .i64 d0,.int .i64 d1,.int .i64 r],.int .i64 a,.int .i64 b]=>some ([M.Gd.kn2 (M.Gd.mk w ht s v0 v1 d0 d1 r) a b=0],.tup [.agg [SI (M.Gd.T0 (M.Gd.mk w ht s v0 v1 d0 d1 r) a b),SI (M.Gd.T1 (M.Gd.mk w ht s v0 v1 d0 d1 r) a b)],SI 0])
 | _=>none
theorem s24t:PureOK PP 24 e24t:=by
 intro xs ps res h hp
 unfold e24t at h
 split at h
 ·rename_i w ht s v0 v1 d0 d1 r a b
  cases h
  simp only [AllP.cons] at hp
  obtain ⟨h3,-⟩:=hp
  have h6:=s24 [.agg [.int .i64 w,.int .i64 ht,.int .i64 s,.int .i64 v0,.int .i64 v1,.int .i64 d0,.int .i64 d1,.int .i64 r],.int .i64 a,.int .i64 b] _ _ rfl AllP.nil
  simp only [h3,if_true] at h6
  exact h6
 ·cases h
def lp13 (N:Nat) (R:Nat→M.Sc) (s:M.Sc) (t:Int):LoopS where
 ι:=Nat
 β:=Int
 pre i:=i≤N∧N≤100000
 μ i:=N-i
 next i _ _ _:=i+1
 out i:=M.fe (M.hitE s t R) (N-i) i
 early q:=decide (q≠0)
 SA i:=[(13,.sl 5 N (fun k=>[SI (M.Sc.k (R k)),SI (M.Sc.c (R k)),SI (M.Sc.q (R k)),SI (M.Sc.a (R k)),SI (M.Sc.b (R k))])),(20,.ptr 0 0),(22,SI t),(23,SI i)]
 SH _:=[(0,.cells [SI (M.Sc.k s),SI (M.Sc.c s),SI (M.Sc.q s),SI (M.Sc.a s),SI (M.Sc.b s)])]
 n0:=1
 NA _:=[]
 NH _:=[]
 n1:=0
 RA q:=[(12,.bool true)]
 RH _:=[]
def Rq13 (N:Nat) (R:Nat→M.Sc) (s:M.Sc) (t:Int) (i:Nat):Prop:=(fun (z4 z12:Int) (z13:Nat)=>(fun (z9:Nat) (z10 z11:Prop)=>(fun (z0:Bool) (z1 z3:Prop)=>(fun (z2:Bool) (z5 z7 z8:Prop)=>(fun (z14:Bool) (z6:Prop)=>(decide (z4<(↑N:Int))=true→z11∧z10∧z9<N∧z7∧z7∧(z3→z11)∧(z3→z10)∧z7∧z7∧(z3→z9<N)∧z7∧z7∧z7∧z7∧z8∧z8∧(z1→z11)∧(z1→z10)∧z8∧z8∧(z1→z9<N)∧z8∧z8∧z8∧z8∧z5∧z5∧(z0=true→z11)∧(z0=true→z10)∧z5∧z5∧z5∧(z0=true→z9<N)∧z5∧z5∧z5∧z6∧z6∧(z2=true→z11)∧(z2=true→z10)∧z6∧z6∧z6∧(z2=true→z9<N)∧z6∧z6∧z6∧(z14=true→decide (z12≠(0:Int))=true∧true=true∧True)∧(z14=false→R64 (z4+(1:Int))∧(z13≤N∧N≤(100000:Nat))∧N-z13<N-i∧M.fe (M.hitE s t R) (N-z13) z13=z12∧(N=N∧∀ (k:Nat),k<N→(R k).k=(R k).k∧(R k).c=(R k).c∧(R k).q=(R k).q∧(R k).a=(R k).a∧(R k).b=(R k).b)∧t=t∧z4+(1:Int)=(↑z13:Int)∧s.k=s.k∧s.c=s.c∧s.q=s.q∧s.a=s.a∧s.b=s.b∧True))∧(decide (z4<(↑N:Int))=false→decide (z12≠(0:Int))=false∧True)) (bif z2 then decide (t≤(R z9).b) else false) (z2=true→z2=true)) (bif z0 then decide ((R z9).a≤t) else false) (z0=true→z0=true) (z3→z3) (z1→z1)) (bif bif decide ((R z9).k=s.k) then decide ((R z9).c=s.c) else false then decide ((R z9).q=s.q) else false) ((bif decide ((R z9).k=s.k) then decide ((R z9).c=s.c) else false)=true) (decide ((R z9).k=s.k)=true)) (Int.toNat z4) (z4<(↑N:Int)) ((0:Int)≤z4)) (↑i:Int) (M.fe (M.hitE s t R) (N-i) i) (i+(1:Nat))
theorem q13 (N:Nat) (R:Nat→M.Sc) (s:M.Sc) (t:Int) (i:Nat):VL true [] [(17,pureE e17)] YS.none Try.f13 0 [0,1,2,3,4,5,6,9,10,12,13,14,15,16,17,18,19,20,21,22,23,31,41,50,111,137,156,185,190,240] [] 0 (lp13 N R s t) (i)=Rq13 N R s t i:=by kernel_rfl
theorem peq13 (N:Nat) (R:Nat→M.Sc) (s:M.Sc) (t:Int) (i:Nat):(lp13 N R s t).pre (i)=(i≤N∧N≤(100000:Nat)):=by kernel_rfl
theorem bq13 (N:Nat) (R:Nat→M.Sc) (s:M.Sc) (t:Int) (i:Nat) (hp:i≤N∧N≤(100000:Nat)):Rq13 N R s t i:=by
 unfold Rq13
 dsimp -iota -proj -eta -zeta only
 obtain ⟨h1,h2⟩:=id hp
 have r1:R64 ((i:Int)+1):=by unfold R64; omega
 simp only [Int.toNat_natCast,r1]
 by_cases hl:i<N
 ·have hl':(i:Int)<N:=by omega
  by_cases hc:(R i).k=s.k∧(R i).c=s.c∧(R i).q=s.q∧(R i).a≤t∧t≤(R i).b
  ·have e:M.hitE s t R i≠0:=by unfold M.hitE; rw [if_pos hc]; decide
   have e1:M.hitE s t R i=1:=by unfold M.hitE; rw [if_pos hc]
   rw [M.fe_stop hl e,e1]
   obtain ⟨c1,c2,c3,c4,c5⟩:=hc
   simp [hl,hl',c1,c2,c3,c4,c5]
  ·have e:M.hitE s t R i=0:=by unfold M.hitE; rw [if_neg hc]
   rw [M.fe_step hl e]
   by_cases c1:(R i).k=s.k
   ·by_cases c2:(R i).c=s.c
    ·by_cases c3:(R i).q=s.q
     ·by_cases c4:(R i).a≤t
      ·have c5:¬ t≤(R i).b:=fun c5=>hc ⟨c1,c2,c3,c4,c5⟩
       simp [hl,hl',c1,c2,c3,c4,c5]
       omega
      ·simp [hl,hl',c1,c2,c3,c4]
       omega
     ·simp [hl,hl',c1,c2,c3]
      omega
    ·simp [hl,hl',c1,c2]
     omega
   ·simp [hl,hl',c1]
    omega
 ·have e:i=N:=by omega
  subst e
  rw [M.fe_end (Nat.le_refl _)]
  simp
theorem t13 (N:Nat) (R:Nat→M.Sc) (s:M.Sc) (t:Int) {F:Fence} (hF:FOK F) (Y:YEnv PP YS.none):∀ Q A H nx,loopT false Try.f13.ntmps 0 (lp13 N R s t) (fun _ _ _=>(0:Nat)) Q A H nx→WPS Y F Try.f13.ntmps 0 (.block 0 (blkAt 0 Try.f13)) Q A H nx :=
 loopW (E:=[]) (.nil) (O:=[(17,pureE e17)]) (.cons (pureE_ok s17) (.nil)) (ck:=true) (L:=[0,1,2,3,4,5,6,9,10,12,13,14,15,16,17,18,19,20,21,22,23,31,41,50,111,137,156,185,190,240]) (f:=Try.f13) (m:=0) (id:=0) (l:=(lp13 N R s t)) (LI:=fun i=>[]) Y hF (by kernel_rfl) (fun _=>.nil) (by
  rintro i hp
  exact Hold.of (q13 N R s t i) (bq13 N R s t i ((peq13 N R s t i).mp hp)))
def e13b:List SV→Option (List Prop × SV)
 | [.agg [.int .i64 g_w,.int .i64 g_h,.int .i64 g_s,.int .i64 g_v0,.int .i64 g_v1,.int .i64 g_d0,.int .i64 g_d1,.int .i64 g_r],.sl 5 n g_1,.int .i64 f,.agg [.int .u8 p0,.int .u8 p1],.agg [.int .u32 w0,.int .u32 w1,.int .u32 w2],.int .u32 u]=>some ([Row 5 n g_1,M.Gd.slE (M.Gd.mk g_w g_h g_s g_v0 g_v1 g_d0 g_d1 g_r) (fun i=>M.Sc.mk (cI g_1 0 i) (cI g_1 1 i) (cI g_1 2 i) (cI g_1 3 i) (cI g_1 4 i)) f n=0,0≤p0,p0<256,0≤p1,p1<256,0≤w0,w0<4294967296,0≤w1,w1<4294967296,0≤w2,w2<4294967296,0≤u,u<4294967296],.bool true)
 | _=>none
def Rr13b (g:M.Gd) (n:Nat) (S:Nat→M.Sc) (f p0 p1 w0 w1 w2 u:Int):Prop:=(fun (z13 z16 z38 z42 z43:Int) (z6 z24 z26:Nat) (z15 z35:Prop)=>(fun (z10 z18 z37:Bool) (z12 z32:Int) (z5:M.Sc) (z8:Prop)=>(fun (z2 z36:Bool) (z11:Int) (z3:Nat) (z22:Nat→M.Sc) (z21 z40:Prop)=>(fun (z7 z9:Bool) (z28 z29:Int) (z14 z25:Nat) (z27:Prop)=>(fun (z30 z34 z39:Bool) (z1:Int) (z4:Nat) (z0:Nat→M.Sc) (z19 z20 z41:Prop)=>(fun (z31 z33:Bool) (z23:Nat→M.Sc) (z17:Prop)=>(fun (z44:Prop)=>(z40→z40)∧(z40→z40)∧(z18=false→z40)∧(z36=true→z35)∧(z36=false→z15∧n≤z26∧M.Gd.slE g S f n=z13∧(z10=true→z35)∧(z10=false→z8∧z15∧z24≤z26∧n≤z26∧M.ins z24 n (M.slR g S f n) S=true∧((!!true)=true→(!!true)=true)∧((!true)=false→(!!true)=true)∧(z37=true→false=true)∧(z37=false→R64 u∧R64 (f+z38)∧f+z38≠z13∧R64 z12∧z15∧n≤z26∧M.Gd.slE g S z12 n=z13∧z13≤z13∧z13<z42∧R64 p0∧z16≠z13∧z13≤z32∧z32≤z16∧(∀ (k:Nat),k<z3-z6→z35)∧z6≤z6∧z14*(40:Nat)≤(140737488355328:Nat)∧R64 z11∧z13≤z11∧z11≤z16∧(∀ (k:Nat),k<n-z25→z35)∧z14≤z14∧z4*(40:Nat)≤(140737488355328:Nat)∧z6+z4≤z4∧(∀ (k:Nat),k<z4→((bif decide (z6+k<z14) then bif decide (z6+k<z6) then z13 else (S (z6+(z6+k-z6))).k else (S (z25+(z6+k-z14))).k)=bif decide (z6+k<z14) then bif decide (z6+k<z6) then z13 else (S (z6+(z6+k-z6))).k else (S (z25+(z6+k-z14))).k)∧((bif decide (z6+k<z14) then bif decide (z6+k<z6) then z13 else (S (z6+(z6+k-z6))).c else (S (z25+(z6+k-z14))).c)=bif decide (z6+k<z14) then bif decide (z6+k<z6) then z13 else (S (z6+(z6+k-z6))).c else (S (z25+(z6+k-z14))).c)∧((bif decide (z6+k<z14) then bif decide (z6+k<z6) then z13 else (S (z6+(z6+k-z6))).q else (S (z25+(z6+k-z14))).q)=bif decide (z6+k<z14) then bif decide (z6+k<z6) then z13 else (S (z6+(z6+k-z6))).q else (S (z25+(z6+k-z14))).q)∧((bif decide (z6+k<z14) then bif decide (z6+k<z6) then z13 else (S (z6+(z6+k-z6))).a else (S (z25+(z6+k-z14))).a)=bif decide (z6+k<z14) then bif decide (z6+k<z6) then z13 else (S (z6+(z6+k-z6))).a else (S (z25+(z6+k-z14))).a)∧(bif decide (z6+k<z14) then bif decide (z6+k<z6) then z13 else (S (z6+(z6+k-z6))).b else (S (z25+(z6+k-z14))).b)=bif decide (z6+k<z14) then bif decide (z6+k<z6) then z13 else (S (z6+(z6+k-z6))).b else (S (z25+(z6+k-z14))).b)∧z4≤z26∧M.Gd.slE g z0 f z4=z13∧z21∧(z10=false→(!z10)=true)∧(z27→z27)∧(z27→z27)∧(z27→∀ (k:Nat),k<M.slN g S z12 n→(z22 k).k=(z22 k).k∧(z22 k).c=(z22 k).c∧(z22 k).q=(z22 k).q∧(z22 k).a=(z22 k).a∧(z22 k).b=(z22 k).b)∧(z27→z8)∧(z27→M.slN g S z12 n≤z26)∧(z27→z24≤z26)∧(z27→M.ins (M.slN g S z12 n) z24 z22 (M.slR g S f n)=true)∧(z27→z27)∧(z2=false→z27)∧z20∧z20∧(z7=true→z13≤z32)∧(z7=true→z32<z16)∧z20∧z20∧(z7=true→z3<n)∧z20∧z20∧(z19→z19)∧(z19→z19)∧(z19→∀ (k:Nat),k<M.slN g z0 f z4→(z23 k).k=(z23 k).k∧(z23 k).c=(z23 k).c∧(z23 k).q=(z23 k).q∧(z23 k).a=(z23 k).a∧(z23 k).b=(z23 k).b)∧(z19→z8)∧(z19→M.slN g z0 f z4≤z26)∧(z19→z24≤z26)∧(z19→M.ins (M.slN g z0 f z4) z24 z23 (M.slR g S f n)=true)∧(z19→z19)∧z20∧(z7=true→z9=true→z19)∧((bif z2 then true else !true)=false→z7=true)∧(z30=true→false=true)∧(z30=false→z13≤z13∧z13<z42∧R64 p0∧z16≠z13∧z13≤z32∧z32<z16∧z3<n∧z13≤z38∧z38<z42∧R64 p1∧z16≠z13∧z13≤Int.tmod p1 z16∧Int.tmod p1 z16<z16∧Int.toNat (Int.tmod p1 z16)<n∧(z41→z41)∧(z41→z41)∧((!z9)=false→z41)∧(z34=true→z35)∧(z34=false→M.Gd.kn2 g (S z3).c z5.c=z13∧z21∧z21∧z21∧z21∧(z10=false→(!z10)=true)∧(z39=true→false=true)∧(z39=false→z13≤z13∧z13<z43∧(S z3).a≤(S z3).b∧(- 1000000000000:Int)≤(S z3).a∧(S z3).b≤(1000000000000:Int)∧z13≤w0∧w0<(4294967296:Int)∧z13≤z38∧z38<z43∧z29≤z28∧(- 1000000000000:Int)≤z29∧z28≤(1000000000000:Int)∧z13≤w1∧w1<(4294967296:Int)∧R64 (M.into (S z3).a (S z3).b w0+M.into z29 z28 w1)∧z13≤(2:Int)∧(2:Int)<z43∧R64 w2∧R64 (f+z38)∧f+z38≠z13∧R64 z1∧z44∧z44∧z44∧z44∧(decide (z1<z5.a)=false→z17)∧(z33=true→z35)∧(z33=false→(z6≤z24∧z24≤z26)∧((z24=z24∧z8)∧z1=z1∧z13=(↑z6:Int)∧z5.k=z5.k∧z5.c=z5.c∧z5.q=z5.q∧z5.a=z5.a∧z5.b=z5.b∧True)∧(z31=false→false=true)∧(z31=true→z35))))))))) (z17→z17)) (decide (M.fe (M.hitE z5 z1 (M.slR g S f n)) (z24-z6) z6≠z13)) (bif decide (z1<z5.a) then true else decide (z5.b<z1)) (M.slR g z0 f z4) ((!decide (z1<z5.a))=true)) (bif bif z2 then true else !true then true else bif z9 then !true else false) (bif !z9 then true else !decide (z5.k=(2:Int))) (bif z10 then true else decide (z28<z29)) (M.into (S z3).a (S z3).b w0+M.into z29 z28 w1+Int.tmod w2 (f+z38)) (z14+(n-z25)) (fun i=>M.Sc.mk (bif decide (z6+i<z14) then bif decide (z6+i<z6) then z13 else (S (z6+(z6+i-z6))).k else (S (z25+(z6+i-z14))).k) (bif decide (z6+i<z14) then bif decide (z6+i<z6) then z13 else (S (z6+(z6+i-z6))).c else (S (z25+(z6+i-z14))).c) (bif decide (z6+i<z14) then bif decide (z6+i<z6) then z13 else (S (z6+(z6+i-z6))).q else (S (z25+(z6+i-z14))).q) (bif decide (z6+i<z14) then bif decide (z6+i<z6) then z13 else (S (z6+(z6+i-z6))).a else (S (z25+(z6+i-z14))).a) (bif decide (z6+i<z14) then bif decide (z6+i<z6) then z13 else (S (z6+(z6+i-z6))).b else (S (z25+(z6+i-z14))).b)) ((z7 && z9)=true) (z7=true→z7=true) ((!!z9)=true)) (!bif z2 then true else !true) (decide ((S z3).k=z38)) (M.Gd.T1 g (S z3).c z5.c) (M.Gd.T0 g (S z3).c z5.c) (z6+(z3-z6)) (Int.toNat z11) ((!z2)=true)) (bif z10 then true else z10) (bif z18 then true else decide (z16=z13)) (z32+z38) (Int.toNat z32) (M.slR g S z12 n) ((!z10)=true→(!z10)=true) ((!z18)=true)) (!decide (z13=z13)) (decide ((100:Int)<z16)) (bif !true then true else decide (f<z13)) (f-Int.tmod u (f+z38)) (Int.tmod p0 z16) (S (Int.toNat (Int.tmod p1 z16))) (∀ (k:Nat),k<z24→(M.slR g S f n k).k=(M.slR g S f n k).k∧(M.slR g S f n k).c=(M.slR g S f n k).c∧(M.slR g S f n k).q=(M.slR g S f n k).q∧(M.slR g S f n k).a=(M.slR g S f n k).a∧(M.slR g S f n k).b=(M.slR g S f n k).b)) (0:Int) (↑n:Int) (1:Int) (↑(2:Nat):Int) (↑(3:Nat):Int) (0:Nat) (M.slN g S f n) (100000:Nat) (∀ (k:Nat),k<n→(S k).k=(S k).k∧(S k).c=(S k).c∧(S k).q=(S k).q∧(S k).a=(S k).a∧(S k).b=(S k).b) (true=true)
theorem r13b (g:M.Gd) (n:Nat) (S:Nat→M.Sc) (f p0 p1 w0 w1 w2 u:Int):V true eqs [(17,pureE e17),(42,pureE e42t),(23,pureE e23t),(24,pureE e24t),(44,pureE e44)] Try.f13 [0,1,2,3,4,5,6,9,10,12,13,14,15,16,17,18,19,20,21,22,23,31,41,50,111,137,156,185,190,240] [(0,loopT false Try.f13.ntmps 0 (lp13 (M.slN g S f n) (M.slR g S f n) (S (Int.tmod p1 n).toNat) (M.into (S (Int.tmod p0 n).toNat).a (S (Int.tmod p0 n).toNat).b w0+M.into (M.Gd.T0 g (S (Int.tmod p0 n).toNat).c (S (Int.tmod p1 n).toNat).c) (M.Gd.T1 g (S (Int.tmod p0 n).toNat).c (S (Int.tmod p1 n).toNat).c) w1+Int.tmod w2 (f+1))) (fun _ _ _=>(0:Nat)))] [.agg [SI (M.Gd.w g),SI (M.Gd.h g),SI (M.Gd.s g),SI (M.Gd.v0 g),SI (M.Gd.v1 g),SI (M.Gd.d0 g),SI (M.Gd.d1 g),SI (M.Gd.r g)],.sl 5 n (fun k=>[SI (M.Sc.k (S k)),SI (M.Sc.c (S k)),SI (M.Sc.q (S k)),SI (M.Sc.a (S k)),SI (M.Sc.b (S k))]),SI f,.agg [.int .u8 p0,.int .u8 p1],.agg [.int .u32 w0,.int .u32 w1,.int .u32 w2],.int .u32 u] (.bool true)=Rr13b g n S f p0 p1 w0 w1 w2 u:=by kernel_rfl
theorem br13b (g:M.Gd) (n:Nat) (S:Nat→M.Sc) (f p0 p1 w0 w1 w2 u:Int) (hp:(M.Gd.slE g S f n=0)∧(0≤p0)∧(p0<256)∧(0≤p1)∧(p1<256)∧(0≤w0)∧(w0<4294967296)∧(0≤w1)∧(w1<4294967296)∧(0≤w2)∧(w2<4294967296)∧(0≤u)∧(u<4294967296)∧AllP []):Rr13b g n S f p0 p1 w0 w1 w2 u:=by
 unfold Rr13b
 dsimp -iota -proj -eta -zeta only
 obtain ⟨hE,p1',p2,p3,p4,p5,p6,p7,p8,p9,p10,p11,p12,-⟩:=id hp
 by_cases c0:100<n∨n=0
 ·rcases c0 with c0 | c0
  ·have c0':(100:Int)<n:=by omega
   simp [c0']
  ·simp [c0]
 by_cases c0:n≤100
 ·have hn0:n≠0:=by omega
  have c0':¬ (100:Int)<n:=by omega
  obtain ⟨⟨hk,hn,hs⟩,f1,f2⟩:=M.slE_ok.1 hE
  obtain ⟨a,ea,ha⟩ : ∃ a:Nat,Int.tmod p0 n=a∧a<n:=⟨(Int.tmod p0 n).toNat,by have:=Int.tmod_nonneg (n:Int) p1'; omega,by have:=Int.tmod_lt_of_pos p0 (show 0<(n:Int) by omega); have:=Int.tmod_nonneg (n:Int) p1'; omega⟩
  obtain ⟨b,eb,hb⟩ : ∃ b:Nat,Int.tmod p1 n=b∧b<n:=⟨(Int.tmod p1 n).toNat,by have:=Int.tmod_nonneg (n:Int) p3; omega,by have:=Int.tmod_lt_of_pos p1 (show 0<(n:Int) by omega); have:=Int.tmod_nonneg (n:Int) p3; omega⟩
  have l1:=Int.tmod_nonneg (f+1) p11
  have l2:=Int.tmod_lt_of_pos u (show 0<f+1 by omega)
  have w21:=Int.tmod_nonneg (f+1) p9
  have w22:=Int.tmod_lt_of_pos w2 (show 0<f+1 by omega)
  have e1:((a:Int)+1).toNat=a+1:=by omega
  have e2:0+(a-0)+(n-(a+1))=n-1:=by omega
  have e3:(fun i=>M.Sc.mk (bif decide (0+i<0+(a-0)) then bif decide (0+i<0) then 0 else (S (0+(0+i-0))).k else (S (a+1+(0+i-(0+(a-0))))).k) (bif decide (0+i<0+(a-0)) then bif decide (0+i<0) then 0 else (S (0+(0+i-0))).c else (S (a+1+(0+i-(0+(a-0))))).c) (bif decide (0+i<0+(a-0)) then bif decide (0+i<0) then 0 else (S (0+(0+i-0))).q else (S (a+1+(0+i-(0+(a-0))))).q) (bif decide (0+i<0+(a-0)) then bif decide (0+i<0) then 0 else (S (0+(0+i-0))).a else (S (a+1+(0+i-(0+(a-0))))).a) (bif decide (0+i<0+(a-0)) then bif decide (0+i<0) then 0 else (S (0+(0+i-0))).b else (S (a+1+(0+i-(0+(a-0))))).b))=M.delS a S:=by
   funext i
   unfold M.delS
   by_cases c:i<a
   ·simp [c]
   ·have c2:a+1+(i-a)=i+1:=by omega
    simp [c,c2]
  have hd:M.Gd.slE g (M.delS a S) f (n-1)=0:=M.slE_ok.2 ⟨⟨hk,by omega,fun i hi=>by unfold M.delS; split <;> exact hs _ (by omega)⟩,f1,f2⟩
  have hf':M.Gd.slE g S (f-Int.tmod u (f+1)) n=0:=M.slE_ok.2 ⟨⟨hk,hn,hs⟩,by omega,by omega⟩
  have i1:M.ins (M.slN g S f n) n (M.slR g S f n) S=true:=M.fm_in fun i _ z hz=>M.Gd.slO_in hz
  have i2:M.ins (M.slN g S (f-Int.tmod u (f+1)) n) (M.slN g S f n) (M.slR g S (f-Int.tmod u (f+1)) n) (M.slR g S f n)=true:=M.fm_ins fun i hi z hz=>M.Gd.slO_wide rfl (by omega) (fun j hj _=>⟨j,hj,rfl⟩) hz
  have i3:M.ins (M.slN g (M.delS a S) f (n-1)) (M.slN g S f n) (M.slR g (M.delS a S) f (n-1)) (M.slR g S f n)=true:=M.del_ins ha
  have n1:M.slN g S f n≤n:=M.fmN_le n
  have n2:M.slN g S (f-Int.tmod u (f+1)) n≤n:=M.fmN_le n
  have n3:M.slN g (M.delS a S) f (n-1)≤n-1:=M.fmN_le (n-1)
  have ha':=hs a ha
  have hb':=hs b hb
  have hkn:M.Gd.kn2 g (S a).c (S b).c=0:=M.Gd.kn2_ok.2 ⟨hk,ha'.2.1,hb'.2.1⟩
  obtain ⟨t1,t2,t3,t4⟩:=M.Gd.T_bd hk ha'.2.1 hb'.2.1
  obtain ⟨-,-,-,q1,q2,q3⟩:=ha'
  obtain ⟨-,-,-,q4,q5,q6⟩:=hb'
  have y1:=M.into_in (u:=w0) q2 p5
  have y2:=M.into_in (u:=w1) t2 p7
  have hit:(S a).k=1→(S b).k=2→(S b).a≤M.into (S a).a (S a).b w0+M.into (M.Gd.T0 g (S a).c (S b).c) (M.Gd.T1 g (S a).c (S b).c) w1+Int.tmod w2 (f+1)→M.into (S a).a (S a).b w0+M.into (M.Gd.T0 g (S a).c (S b).c) (M.Gd.T1 g (S a).c (S b).c) w1+Int.tmod w2 (f+1)≤(S b).b →
    M.fe (M.hitE (S b) (M.into (S a).a (S a).b w0+M.into (M.Gd.T0 g (S a).c (S b).c) (M.Gd.T1 g (S a).c (S b).c) w1+Int.tmod w2 (f+1)) (M.slR g S f n)) (M.slN g S f n-0) 0≠0:=fun k1 k2 k3 k4 h0=>by
   obtain ⟨z,z1,z2,z3,z4,z5,z6⟩:=M.Gd.slO_at (g:=g) (s:=S) (f:=f) (n:=n) (i:=b) (j:=a) k2 ha k1 (t:=M.into (S a).a (S a).b w0+M.into (M.Gd.T0 g (S a).c (S b).c) (M.Gd.T1 g (S a).c (S b).c) w1+Int.tmod w2 (f+1)) (by omega) (by omega) k3 k4
   obtain ⟨k,k5,k6⟩:=M.fm_mem hb z1
   have h1:=M.fe_all.1 h0 k k5
   have k6':M.slR g S f n k=z:=k6
   unfold M.hitE at h1
   rw [k6',if_pos ⟨z2,z3,z4,z5,z6⟩] at h1
   omega
  have rr:∀ z:Int,-4000000000000≤z→z≤4000000000000→R64 z:=fun z h1 h2=>by unfold R64; omega
  have r0:R64 p0:=rr _ (by omega) (by omega)
  have r1:R64 p1:=rr _ (by omega) (by omega)
  have r2:R64 w2:=rr _ (by omega) (by omega)
  have r3:R64 u:=rr _ (by omega) (by omega)
  have r4:R64 (f+1):=rr _ (by omega) (by omega)
  have r5:R64 (f-Int.tmod u (f+1)):=rr _ (by omega) (by omega)
  have r6:R64 ((a:Int)+1):=rr _ (by omega) (by omega)
  have r7:R64 (M.into (S a).a (S a).b w0+M.into (M.Gd.T0 g (S a).c (S b).c) (M.Gd.T1 g (S a).c (S b).c) w1):=rr _ (by omega) (by omega)
  have r8:R64 (M.into (S a).a (S a).b w0+M.into (M.Gd.T0 g (S a).c (S b).c) (M.Gd.T1 g (S a).c (S b).c) w1+Int.tmod w2 (f+1)):=rr _ (by omega) (by omega)
  simp only [ea,eb,Int.toNat_natCast,e1,e2,e3,hE,hd,hf',i1,i2,i3,hkn,r0,r1,r2,r3,r4,r5,r6,r7,r8]
  generalize hT:M.into (S a).a (S a).b w0+M.into (M.Gd.T0 g (S a).c (S b).c) (M.Gd.T1 g (S a).c (S b).c) w1+Int.tmod w2 (f+1)=T at *
  rw [Nat.sub_zero] at hit
  simp
  intro _ _
  refine ⟨by omega,by omega,by omega,by omega,fun _=>⟨by omega,by omega,hn0,by omega,by omega,by omega,by omega,by omega,by omega,by omega,by omega,ha,fun _=>by omega,fun _=>by omega,hn0,ha,hn0,hb,fun k1 k2=>⟨by omega,fun _=>⟨by omega,by omega,by omega,by omega,by omega,by omega,by omega,by omega,by omega,by omega,by omega,fun k3 k4=>⟨by omega,hit k1 k2 k3 k4⟩⟩⟩⟩⟩
 ·have c0':(100:Int)<n:=by omega
  simp [c0']
theorem s13b:PureOK PP 13 e13b:=by
 intro xs ps res h hp
 unfold e13b at h
 split at h
 ·rename_i g_w g_h g_s g_v0 g_v1 g_d0 g_d1 g_r n g_1 f p0 p1 w0 w1 w2 u
  cases h
  simp only [AllP.cons] at hp
  obtain ⟨Hg_1,hp⟩:=hp
  exact Spec.args (enterH (Hold.of (r13b (M.Gd.mk g_w g_h g_s g_v0 g_v1 g_d0 g_d1 g_r) n (fun i=>M.Sc.mk (cI g_1 0 i) (cI g_1 1 i) (cI g_1 2 i) (cI g_1 3 i) (cI g_1 4 i)) f p0 p1 w0 w1 w2 u) (br13b (M.Gd.mk g_w g_h g_s g_v0 g_v1 g_d0 g_d1 g_r) n (fun i=>M.Sc.mk (cI g_1 0 i) (cI g_1 1 i) (cI g_1 2 i) (cI g_1 3 i) (cI g_1 4 i)) f p0 p1 w0 w1 w2 u hp)) (eqsok) (.cons (pureE_ok s17) (.cons (pureE_ok s42t) (.cons (pureE_ok s23t) (.cons (pureE_ok s24t) (.cons (pureE_ok s44) (.nil)))))) (k:=13) (by kernel_rfl) (by kernel_rfl) (fun Y=>.cons (by kernel_rfl) (t13 (M.slN (M.Gd.mk g_w g_h g_s g_v0 g_v1 g_d0 g_d1 g_r) (fun i=>M.Sc.mk (cI g_1 0 i) (cI g_1 1 i) (cI g_1 2 i) (cI g_1 3 i) (cI g_1 4 i)) f n) (M.slR (M.Gd.mk g_w g_h g_s g_v0 g_v1 g_d0 g_d1 g_r) (fun i=>M.Sc.mk (cI g_1 0 i) (cI g_1 1 i) (cI g_1 2 i) (cI g_1 3 i) (cI g_1 4 i)) f n) ((fun i=>M.Sc.mk (cI g_1 0 i) (cI g_1 1 i) (cI g_1 2 i) (cI g_1 3 i) (cI g_1 4 i)) (Int.tmod p1 n).toNat) (M.into ((fun i=>M.Sc.mk (cI g_1 0 i) (cI g_1 1 i) (cI g_1 2 i) (cI g_1 3 i) (cI g_1 4 i)) (Int.tmod p0 n).toNat).a ((fun i=>M.Sc.mk (cI g_1 0 i) (cI g_1 1 i) (cI g_1 2 i) (cI g_1 3 i) (cI g_1 4 i)) (Int.tmod p0 n).toNat).b w0+M.into (M.Gd.T0 (M.Gd.mk g_w g_h g_s g_v0 g_v1 g_d0 g_d1 g_r) ((fun i=>M.Sc.mk (cI g_1 0 i) (cI g_1 1 i) (cI g_1 2 i) (cI g_1 3 i) (cI g_1 4 i)) (Int.tmod p0 n).toNat).c ((fun i=>M.Sc.mk (cI g_1 0 i) (cI g_1 1 i) (cI g_1 2 i) (cI g_1 3 i) (cI g_1 4 i)) (Int.tmod p1 n).toNat).c) (M.Gd.T1 (M.Gd.mk g_w g_h g_s g_v0 g_v1 g_d0 g_d1 g_r) ((fun i=>M.Sc.mk (cI g_1 0 i) (cI g_1 1 i) (cI g_1 2 i) (cI g_1 3 i) (cI g_1 4 i)) (Int.tmod p0 n).toNat).c ((fun i=>M.Sc.mk (cI g_1 0 i) (cI g_1 1 i) (cI g_1 2 i) (cI g_1 3 i) (cI g_1 4 i)) (Int.tmod p1 n).toNat).c) w1+Int.tmod w2 (f+1)) FOK.wide Y) (.nil))) (.cons (.refl _) (.cons (.row Hg_1 fun _=>rfl) (.cons (.refl _) (.cons (.refl _) (.cons (.refl _) (.cons (.refl _) .nil))))))
 ·cases h
def e13a:List SV→Option (List Prop × SV)
 | [.agg [.int .i64 g_w,.int .i64 g_h,.int .i64 g_s,.int .i64 g_v0,.int .i64 g_v1,.int .i64 g_d0,.int .i64 g_d1,.int .i64 g_r],.sl 5 n g_1,.int .i64 f,.agg [.int .u8 p0,.int .u8 p1],.agg [.int .u32 w0,.int .u32 w1,.int .u32 w2],.int .u32 u]=>some ([Row 5 n g_1,M.Gd.slE (M.Gd.mk g_w g_h g_s g_v0 g_v1 g_d0 g_d1 g_r) (fun i=>M.Sc.mk (cI g_1 0 i) (cI g_1 1 i) (cI g_1 2 i) (cI g_1 3 i) (cI g_1 4 i)) f n≠0],.bool true)
 | _=>none
def Rr13a (g:M.Gd) (n:Nat) (S:Nat→M.Sc) (f p0 p1 w0 w1 w2 u:Int):Prop:=(fun (z0 z3:Bool)=>(fun (z1:Bool) (z2:Prop)=>(z2→z2)∧(z2→z2)∧(z0=false→z2)∧(z1=true→true=true)∧(z1=false→(∀ (k:Nat),k<n→(S k).k=(S k).k∧(S k).c=(S k).c∧(S k).q=(S k).q∧(S k).a=(S k).a∧(S k).b=(S k).b)∧n≤(100000:Nat)∧(z3=true→true=true)∧(z3=false→False))) (bif z0 then true else decide ((↑n:Int)=(0:Int))) ((!z0)=true)) (decide ((100:Int)<(↑n:Int))) (!decide (M.Gd.slE g S f n=(0:Int)))
theorem r13a (g:M.Gd) (n:Nat) (S:Nat→M.Sc) (f p0 p1 w0 w1 w2 u:Int):V true eqs [(17,pureE e17),(42,pureE e42)] Try.f13 [0,1,2,3,4,5,6,9,10,12,13,14,15,16,17,18,19,20,21,22,23,31,41,50,111,137,156,185,190,240] [(0,loopT false Try.f13.ntmps 0 (lp13 (M.slN g S f n) (M.slR g S f n) (S (Int.tmod p1 n).toNat) (M.into (S (Int.tmod p0 n).toNat).a (S (Int.tmod p0 n).toNat).b w0+M.into (M.Gd.T0 g (S (Int.tmod p0 n).toNat).c (S (Int.tmod p1 n).toNat).c) (M.Gd.T1 g (S (Int.tmod p0 n).toNat).c (S (Int.tmod p1 n).toNat).c) w1+Int.tmod w2 (f+1))) (fun _ _ _=>(0:Nat)))] [.agg [SI (M.Gd.w g),SI (M.Gd.h g),SI (M.Gd.s g),SI (M.Gd.v0 g),SI (M.Gd.v1 g),SI (M.Gd.d0 g),SI (M.Gd.d1 g),SI (M.Gd.r g)],.sl 5 n (fun k=>[SI (M.Sc.k (S k)),SI (M.Sc.c (S k)),SI (M.Sc.q (S k)),SI (M.Sc.a (S k)),SI (M.Sc.b (S k))]),SI f,.agg [.int .u8 p0,.int .u8 p1],.agg [.int .u32 w0,.int .u32 w1,.int .u32 w2],.int .u32 u] (.bool true)=Rr13a g n S f p0 p1 w0 w1 w2 u:=by kernel_rfl
theorem br13a (g:M.Gd) (n:Nat) (S:Nat→M.Sc) (f p0 p1 w0 w1 w2 u:Int) (hp:(M.Gd.slE g S f n≠0)∧AllP []):Rr13a g n S f p0 p1 w0 w1 w2 u:=by
 unfold Rr13a
 dsimp -iota -proj -eta -zeta only
 obtain ⟨hE,-⟩:=id hp
 by_cases c0:100<n∨n=0
 ·rcases c0 with c0 | c0
  ·have c0':(100:Int)<n:=by omega
   simp [c0']
  ·simp [c0]
 ·have hn0:n≠0:=by omega
  have c0':¬ (100:Int)<n:=by omega
  simp [c0',hn0,hE]
  omega
theorem s13a:PureOK PP 13 e13a:=by
 intro xs ps res h hp
 unfold e13a at h
 split at h
 ·rename_i g_w g_h g_s g_v0 g_v1 g_d0 g_d1 g_r n g_1 f p0 p1 w0 w1 w2 u
  cases h
  simp only [AllP.cons] at hp
  obtain ⟨Hg_1,hp⟩:=hp
  exact Spec.args (enterH (Hold.of (r13a (M.Gd.mk g_w g_h g_s g_v0 g_v1 g_d0 g_d1 g_r) n (fun i=>M.Sc.mk (cI g_1 0 i) (cI g_1 1 i) (cI g_1 2 i) (cI g_1 3 i) (cI g_1 4 i)) f p0 p1 w0 w1 w2 u) (br13a (M.Gd.mk g_w g_h g_s g_v0 g_v1 g_d0 g_d1 g_r) n (fun i=>M.Sc.mk (cI g_1 0 i) (cI g_1 1 i) (cI g_1 2 i) (cI g_1 3 i) (cI g_1 4 i)) f p0 p1 w0 w1 w2 u hp)) (eqsok) (.cons (pureE_ok s17) (.cons (pureE_ok s42) (.nil))) (k:=13) (by kernel_rfl) (by kernel_rfl) (fun Y=>.cons (by kernel_rfl) (t13 (M.slN (M.Gd.mk g_w g_h g_s g_v0 g_v1 g_d0 g_d1 g_r) (fun i=>M.Sc.mk (cI g_1 0 i) (cI g_1 1 i) (cI g_1 2 i) (cI g_1 3 i) (cI g_1 4 i)) f n) (M.slR (M.Gd.mk g_w g_h g_s g_v0 g_v1 g_d0 g_d1 g_r) (fun i=>M.Sc.mk (cI g_1 0 i) (cI g_1 1 i) (cI g_1 2 i) (cI g_1 3 i) (cI g_1 4 i)) f n) ((fun i=>M.Sc.mk (cI g_1 0 i) (cI g_1 1 i) (cI g_1 2 i) (cI g_1 3 i) (cI g_1 4 i)) (Int.tmod p1 n).toNat) (M.into ((fun i=>M.Sc.mk (cI g_1 0 i) (cI g_1 1 i) (cI g_1 2 i) (cI g_1 3 i) (cI g_1 4 i)) (Int.tmod p0 n).toNat).a ((fun i=>M.Sc.mk (cI g_1 0 i) (cI g_1 1 i) (cI g_1 2 i) (cI g_1 3 i) (cI g_1 4 i)) (Int.tmod p0 n).toNat).b w0+M.into (M.Gd.T0 (M.Gd.mk g_w g_h g_s g_v0 g_v1 g_d0 g_d1 g_r) ((fun i=>M.Sc.mk (cI g_1 0 i) (cI g_1 1 i) (cI g_1 2 i) (cI g_1 3 i) (cI g_1 4 i)) (Int.tmod p0 n).toNat).c ((fun i=>M.Sc.mk (cI g_1 0 i) (cI g_1 1 i) (cI g_1 2 i) (cI g_1 3 i) (cI g_1 4 i)) (Int.tmod p1 n).toNat).c) (M.Gd.T1 (M.Gd.mk g_w g_h g_s g_v0 g_v1 g_d0 g_d1 g_r) ((fun i=>M.Sc.mk (cI g_1 0 i) (cI g_1 1 i) (cI g_1 2 i) (cI g_1 3 i) (cI g_1 4 i)) (Int.tmod p0 n).toNat).c ((fun i=>M.Sc.mk (cI g_1 0 i) (cI g_1 1 i) (cI g_1 2 i) (cI g_1 3 i) (cI g_1 4 i)) (Int.tmod p1 n).toNat).c) w1+Int.tmod w2 (f+1)) FOK.wide Y) (.nil))) (.cons (.refl _) (.cons (.row Hg_1 fun _=>rfl) (.cons (.refl _) (.cons (.refl _) (.cons (.refl _) (.cons (.refl _) .nil))))))
 ·cases h
theorem s13 {w h s v0 v1 d0 d1 r:Int} {n:Nat} {f p0 p1 w0 w1 w2 u:Int} {G:Nat→List SV} (hG:Row 5 n G) (hp:0≤p0∧p0<256∧0≤p1∧p1<256∧0≤w0∧w0<4294967296∧0≤w1∧w1<4294967296∧0≤w2∧w2<4294967296∧0≤u∧u<4294967296) :
  Pure PP 13 (SV.denL [.agg [.int .i64 w,.int .i64 h,.int .i64 s,.int .i64 v0,.int .i64 v1,.int .i64 d0,.int .i64 d1,.int .i64 r],.sl 5 n G,.int .i64 f,.agg [.int .u8 p0,.int .u8 p1],.agg [.int .u32 w0,.int .u32 w1,.int .u32 w2],.int .u32 u]) (SV.bool true).den:=by
 obtain ⟨h1,h2,h3,h4,h5,h6,h7,h8,h9,h10,h11,h12⟩:=hp
 by_cases hE:M.Gd.slE (M.Gd.mk w h s v0 v1 d0 d1 r) (fun i=>M.Sc.mk (cI G 0 i) (cI G 1 i) (cI G 2 i) (cI G 3 i) (cI G 4 i)) f n=0
 ·exact s13b _ _ _ rfl (AllP.cons.2 ⟨hG,AllP.cons.2 ⟨hE,AllP.cons.2 ⟨h1,AllP.cons.2 ⟨h2,AllP.cons.2 ⟨h3,AllP.cons.2 ⟨h4,AllP.cons.2 ⟨h5,AllP.cons.2 ⟨h6,AllP.cons.2 ⟨h7,AllP.cons.2 ⟨h8,AllP.cons.2 ⟨h9,AllP.cons.2 ⟨h10,AllP.cons.2 ⟨h11,AllP.cons.2 ⟨h12,AllP.nil⟩⟩⟩⟩⟩⟩⟩⟩⟩⟩⟩⟩⟩⟩)
 ·exact s13a _ _ _ rfl (AllP.cons.2 ⟨hG,AllP.cons.2 ⟨hE,AllP.nil⟩⟩)
end Go.Proofs.Ytoncoofmijjgeaa.Sep
