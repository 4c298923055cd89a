/-
  Texts of one seat, joined. No condition. (This text proves no statement by itself.)
-/
import Derived.Test.YtoncoofmijjgeaaKR10
import Derived.Test.YtoncoofmijjgeaaKN1
namespace Go.Proofs.Ytoncoofmijjgeaa.Sep
open Go
set_option linter.unusedVariables false
set_option linter.unusedSimpArgs false
def Rr5 (w ht s v0 v1 d0 d1 r:Int) (c a b:Int):Prop:=(fun (z2:M.Gd)=>(fun (z0:Bool) (z4:Prop)=>(fun (z1:Bool) (z3 z6:Prop)=>(fun (z5:Bool) (z7:Prop)=>(z4→z4)∧(z4→z4)∧(z4→z4)∧z6∧z6∧z6∧(z3→z3)∧(z3→z3)∧(z3→z3)∧z7∧z7∧z7∧(z5=true→z5=true)∧(bif z5 then true else false)=true) (bif z1 then decide (M.Gd.stE z2 c a b=M.Gd.stE z2 c a b) else false) (z1=true→z1=true)) (bif bif z0 then decide (M.Gd.kn2 z2 a b=M.Gd.kn2 z2 a b) else false then decide ((if M.Gd.stE z2 c a b=(0:Int) then M.Gd.S0 z2 c a b else (0:Int))=if M.Gd.stE z2 c a b=(0:Int) then M.Gd.S0 z2 c a b else (0:Int)) && (decide ((if M.Gd.stE z2 c a b=(0:Int) then M.Gd.S1 z2 c a b else (0:Int))=if M.Gd.stE z2 c a b=(0:Int) then M.Gd.S1 z2 c a b else (0:Int)) && true) else false) ((bif z0 then decide (M.Gd.kn2 z2 a b=M.Gd.kn2 z2 a b) else false)=true) (z0=true→z0=true)) (bif decide (M.Gd.er z2=M.Gd.er z2) then decide ((if M.Gd.kn2 z2 a b=(0:Int) then M.Gd.T0 z2 a b else (0:Int))=if M.Gd.kn2 z2 a b=(0:Int) then M.Gd.T0 z2 a b else (0:Int)) && (decide ((if M.Gd.kn2 z2 a b=(0:Int) then M.Gd.T1 z2 a b else (0:Int))=if M.Gd.kn2 z2 a b=(0:Int) then M.Gd.T1 z2 a b else (0:Int)) && true) else false) (decide (M.Gd.er z2=M.Gd.er z2)=true)) (M.Gd.mk w ht s v0 v1 d0 d1 r)
theorem r5 (w ht s v0 v1 d0 d1 r:Int) (c a b:Int):V true eqs [(24,pureE e24),(25,pureE e25),(26,pureE e26),(27,pureE e27),(28,pureE e28),(29,pureE e29),(17,pureE e17)] Try.f5 [0,1,2,3,4,8,9,10,11,12,13,14,15,16,17] [] [.agg [SI w,SI ht,SI s,SI v0,SI v1,SI d0,SI d1,SI r],SI c,SI a,SI b] (.bool true)=Rr5 w ht s v0 v1 d0 d1 r c a b:=by kernel_rfl
def e20:List SV→Option (List Prop × SV)
 | [.sl 6 m g_1]=>some ([Row 6 m g_1,m≤1000],.sl 6 m (fun j=>[SI ((cI g_1 0) j),SI ((cI g_1 1) j),SI ((cI g_1 2) j),SI ((cI g_1 3) j),SI ((cI g_1 4) j),SI ((cI g_1 5) j)]))
 | _=>none
def e3:List SV→Option (List Prop × SV)
 | [.agg [.int .i64 w,.int .i64 ht,.int .i64 s,.int .i64 v0,.int .i64 v1,.int .i64 d0,.int .i64 d1,.int .i64 r],.sl 1 ns g_1,.sl 5 n g_2,.sl 6 m g_3,.int .i64 f]=>some ([Row 1 ns g_1,Row 5 n g_2,Row 6 m g_3],.bool true)
 | _=>none
def Rr3 (w ht s v0 v1 d0 d1 r:Int) (ns:Nat) (x:Nat→Int) (n:Nat) (sk sc sq sa sb:Nat→Int) (m:Nat) (pk ps pa pb pc pd:Nat→Int) (f:Int):Prop:=(fun (z7:Bool) (z2:Int) (z8:Nat) (z1:Nat→M.Sc) (z4 z5 z10:Prop)=>(fun (z3:Nat)=>(fun (z0:Bool) (z6:Prop)=>(fun (z9:Bool) (z11:Prop)=>z10∧z5∧z4∧(z7=true→true=true)∧(z7=false→z10∧z5∧z4∧ns≤z8∧n≤z8∧m≤z8∧z4∧m≤(1000:Nat)∧z10∧z5∧z4∧ns≤z8∧n≤z8∧m≤z8∧z6∧z6∧z3≤z8∧z3≤z8∧z11∧z11∧z11∧(z9=true→z9=true)∧(bif z9 then true else false)=true)) (bif z0 then decide (z2=z2) else false) (z0=true→z0=true)) (M.same z3 z3 (fun i=>M.Sc.mk (z1 i).k (z1 i).c (z1 i).q (z1 i).a (z1 i).b) fun i=>M.Sc.mk (z1 i).k (z1 i).c (z1 i).q (z1 i).a (z1 i).b) (∀ (k:Nat),(k<z3)→(z1 k).k=(z1 k).k∧(z1 k).c=(z1 k).c∧(z1 k).q=(z1 k).q∧(z1 k).a=(z1 k).a∧(z1 k).b=(z1 k).b)) (if z2=(0:Int) then M.Gd.leN (M.Gd.mk w ht s v0 v1 d0 d1 r) x (fun i=>M.Sc.mk (sk i) (sc i) (sq i) (sa i) (sb i)) m (fun i=>M.Pk.mk (pk i) (ps i) (pa i) (pb i) (pc i) (pd i)) f n else (0:Nat))) (!decide (ns≤(70:Nat)∧n≤(300:Nat)∧m≤(70:Nat)∧n*m≤(3000:Nat))) (M.Gd.ckE (M.Gd.mk w ht s v0 v1 d0 d1 r) ns x n (fun i=>M.Sc.mk (sk i) (sc i) (sq i) (sa i) (sb i)) m (fun i=>M.Pk.mk (pk i) (ps i) (pa i) (pb i) (pc i) (pd i)) f) (100000:Nat) (M.Gd.leR (M.Gd.mk w ht s v0 v1 d0 d1 r) x (fun i=>M.Sc.mk (sk i) (sc i) (sq i) (sa i) (sb i)) m (fun i=>M.Pk.mk (pk i) (ps i) (pa i) (pb i) (pc i) (pd i)) f n) (∀ (k:Nat),k<m→pk k=pk k∧ps k=ps k∧pa k=pa k∧pb k=pb k∧pc k=pc k∧pd k=pd k) (∀ (k:Nat),k<n→sk k=sk k∧sc k=sc k∧sq k=sq k∧sa k=sa k∧sb k=sb k) (∀ (k:Nat),k<ns→x k=x k)
theorem r3 (w ht s v0 v1 d0 d1 r:Int) (ns:Nat) (x:Nat→Int) (n:Nat) (sk sc sq sa sb:Nat→Int) (m:Nat) (pk ps pa pb pc pd:Nat→Int) (f:Int):V true [] [(16,pureE e16),(17,pureE e17),(18,pureE e18),(19,pureE e19),(20,pureE e20),(21,pureE e21)] Try.f3 [0,1,2,3,4,5,10,11,12,13,14,19] [] [.agg [SI w,SI ht,SI s,SI v0,SI v1,SI d0,SI d1,SI r],.sl 1 ns (fun k=>[SI (x k)]),.sl 5 n (fun k=>[SI (sk k),SI (sc k),SI (sq k),SI (sa k),SI (sb k)]),.sl 6 m (fun k=>[SI (pk k),SI (ps k),SI (pa k),SI (pb k),SI (pc k),SI (pd k)]),SI f] (.bool true)=Rr3 w ht s v0 v1 d0 d1 r ns x n sk sc sq sa sb m pk ps pa pb pc pd f:=by kernel_rfl
end Go.Proofs.Ytoncoofmijjgeaa.Sep
namespace Go.Proofs.Ytoncoofmijjgeaa.M
open Go
set_option linter.unusedVariables false
set_option linter.unusedSimpArgs false
def fmL (o : Nat → Option Sc) : Nat → List Sc
 | 0 => []
 | i + 1 => match o i with
  | some z => fmL o i ++ [z]
  | none => fmL o i
def fmN (o : Nat → Option Sc) (i : Nat) : Nat := (fmL o i).length
def fmR (o : Nat → Option Sc) (i : Nat) : Nat → Sc := scR (fmL o i)
theorem fm_stay {o : Nat → Option Sc} {i : Nat} (h : o i = none) : fmN o (i + 1) = fmN o i ∧ fmR o (i + 1) = fmR o i := by
 have e : fmL o (i + 1) = fmL o i := by
  conv => lhs; unfold fmL
  rw [h]
 unfold fmN fmR
 rw [e]
 exact ⟨rfl, rfl⟩
theorem fm_step {o : Nat → Option Sc} {i : Nat} {z : Sc} (h : o i = some z) : fmN o (i + 1) = fmN o i + 1 ∧ ∀ k, k < fmN o i + 1 → fmR o (i + 1) k = if k < fmN o i then fmR o i k else z := by
 have e : fmL o (i + 1) = fmL o i ++ [z] := by
  conv => lhs; unfold fmL
  rw [h]
 unfold fmN fmR
 rw [e]
 refine ⟨by simp, fun k hk => ?_⟩
 unfold scR
 rw [List.getD_eq_getElem?_getD, List.getD_eq_getElem?_getD]
 by_cases c : k < (fmL o i).length
 ·rw [List.getElem?_append_left c, if_pos c]
 ·rw [List.getElem?_append_right (by omega), if_neg c]
  have e : k - (fmL o i).length = 0 := by omega
  rw [e]; rfl
theorem fmN_le {o : Nat → Option Sc} (i : Nat) : fmN o i ≤ i := by
 induction i with
 | zero => exact Nat.le_refl _
 | succ i ih =>
  cases h : o i with
  | none => rw [(fm_stay h).1]; omega
  | some z => rw [(fm_step h).1]; omega
theorem fm_zero {o : Nat → Option Sc} : fmN o 0 = 0 := rfl
namespace Gd
def slP (g : Gd) (s : Nat → Sc) (f c : Int) : Nat → Bool × Int × Int
 | 0 => (false, 0, 0)
 | j + 1 => if (s j).k = 1 then (if (slP g s f c j).1 = true then (true, min (slP g s f c j).2.1 ((s j).a + g.T0 (s j).c c), max (slP g s f c j).2.2 ((s j).b + g.T1 (s j).c c + f)) else (true, (s j).a + g.T0 (s j).c c, (s j).b + g.T1 (s j).c c + f)) else slP g s f c j
def slF (g : Gd) (s : Nat → Sc) (f c : Int) (j : Nat) : Bool := (slP g s f c j).1
def slU (g : Gd) (s : Nat → Sc) (f c : Int) (j : Nat) : Int := (slP g s f c j).2.1
def slV (g : Gd) (s : Nat → Sc) (f c : Int) (j : Nat) : Int := (slP g s f c j).2.2
def slA (g : Gd) (s : Nat → Sc) (f c : Int) (j : Nat) : Int := if g.slF s f c j = true then g.slU s f c j else 1099511627776
def slB (g : Gd) (s : Nat → Sc) (f c : Int) (j : Nat) : Int := if g.slF s f c j = true then g.slV s f c j else -1
variable {g : Gd} {s : Nat → Sc} {f c : Int} {j n : Nat}
theorem sl_zero : g.slF s f c 0 = false ∧ g.slU s f c 0 = 0 ∧ g.slV s f c 0 = 0 ∧ g.slA s f c 0 = 1099511627776 ∧ g.slB s f c 0 = -1 := ⟨rfl, rfl, rfl, rfl, rfl⟩
theorem sl_stay (h : ¬ (s j).k = 1) : g.slF s f c (j + 1) = g.slF s f c j ∧ g.slU s f c (j + 1) = g.slU s f c j ∧ g.slV s f c (j + 1) = g.slV s f c j ∧ g.slA s f c (j + 1) = g.slA s f c j ∧ g.slB s f c (j + 1) = g.slB s f c j := by
 have e : slP g s f c (j + 1) = slP g s f c j := by
  conv => lhs; unfold slP
  rw [if_neg h]
 unfold slA slB slF slU slV
 rw [e]
 exact ⟨rfl, rfl, rfl, rfl, rfl⟩
theorem sl_first (h : (s j).k = 1) (h2 : g.slF s f c j = false) : g.slF s f c (j + 1) = true ∧ g.slU s f c (j + 1) = (s j).a + g.T0 (s j).c c ∧ g.slV s f c (j + 1) = (s j).b + g.T1 (s j).c c + f := by
 have e : slP g s f c (j + 1) = (true, (s j).a + g.T0 (s j).c c, (s j).b + g.T1 (s j).c c + f) := by
  conv => lhs; unfold slP
  unfold slF at h2
  rw [if_pos h, if_neg (by rw [h2]; decide)]
 unfold slF slU slV
 rw [e]
 exact ⟨rfl, rfl, rfl⟩
theorem sl_next (h : (s j).k = 1) (h2 : g.slF s f c j = true) : g.slF s f c (j + 1) = true ∧ g.slU s f c (j + 1) = min (g.slU s f c j) ((s j).a + g.T0 (s j).c c) ∧ g.slV s f c (j + 1) = max (g.slV s f c j) ((s j).b + g.T1 (s j).c c + f) := by
 have e : slP g s f c (j + 1) = (true, min (slP g s f c j).2.1 ((s j).a + g.T0 (s j).c c), max (slP g s f c j).2.2 ((s j).b + g.T1 (s j).c c + f)) := by
  conv => lhs; unfold slP
  unfold slF at h2
  rw [if_pos h, if_pos h2]
 unfold slF slU slV
 rw [e]
 exact ⟨rfl, rfl, rfl⟩
theorem sl_one (hk : g.ok) (hs : g.Sok (s j)) (hc : g.cell c) (hf : 0 ≤ f ∧ f ≤ 100000000) : 0 ≤ (s j).a + g.T0 (s j).c c ∧ (s j).a + g.T0 (s j).c c ≤ 1010485760 ∧ 0 ≤ (s j).b + g.T1 (s j).c c ∧ (s j).b + g.T1 (s j).c c ≤ 1010485760 ∧ (s j).b + g.T1 (s j).c c + f ≤ 1110485760 := by
 obtain ⟨-, h1, -, h2, h3, h4⟩ := hs
 have := T_bd hk h1 hc
 omega
theorem slA_step (hk : g.ok) (hs : ∀ i, i < n → g.Sok (s i)) (hc : g.cell c) (hf : 0 ≤ f ∧ f ≤ 100000000) (hj : j < n) (h : (s j).k = 1) : g.slA s f c (j + 1) = min (g.slA s f c j) ((s j).a + g.T0 (s j).c c) ∧ g.slB s f c (j + 1) = max (g.slB s f c j) ((s j).b + g.T1 (s j).c c + f) := by
 have h3 := sl_one (j := j) hk (hs j hj) hc hf
 unfold slA slB
 cases h2 : g.slF s f c j with
 | false =>
  obtain ⟨e0, e1, e2⟩ := sl_first (g := g) (f := f) (c := c) h h2
  simp only [e0, e1, e2, if_true, Bool.false_eq_true, if_false]
  constructor <;> omega
 | true =>
  obtain ⟨e0, e1, e2⟩ := sl_next (g := g) (f := f) (c := c) h h2
  simp only [e0, e1, e2, if_true]
  exact ⟨trivial, trivial⟩
def slO (g : Gd) (s : Nat → Sc) (f : Int) (n : Nat) (i : Nat) : Option Sc :=
 if (s i).k = 2 then (if g.slF s f (s i).c n = true ∧ max (s i).a (g.slU s f (s i).c n) ≤ min (s i).b (g.slV s f (s i).c n) then some ⟨(s i).k, (s i).c, (s i).q, max (s i).a (g.slU s f (s i).c n), min (s i).b (g.slV s f (s i).c n)⟩ else none) else some (s i)
def slE (g : Gd) (s : Nat → Sc) (f : Int) (n : Nat) : Int := if g.csE n s = 0 then (if 0 ≤ f ∧ f ≤ 100000000 then 0 else 3) else g.csE n s
theorem slO_other {i : Nat} (h : ¬ (s i).k = 2) : g.slO s f n i = some (s i) := by unfold slO; rw [if_neg h]
theorem slO_quake {i : Nat} (h : (s i).k = 2) (hs : g.Sok (s i)) : g.slO s f n i = if max (s i).a (g.slA s f (s i).c n) ≤ min (s i).b (g.slB s f (s i).c n) then some ⟨(s i).k, (s i).c, (s i).q, max (s i).a (g.slA s f (s i).c n), min (s i).b (g.slB s f (s i).c n)⟩ else none := by
 obtain ⟨-, -, -, h2, h3, h4⟩ := hs
 unfold slO slA slB
 rw [if_pos h]
 cases g.slF s f (s i).c n with
 | true => simp
 | false =>
  simp only [Bool.false_eq_true, if_false, false_and]
  rw [if_neg (by omega)]
theorem slO_ref {i : Nat} (h : (s i).k = 2) : g.slO s f n i = if g.slF s f (s i).c n = true ∧ max (s i).a (g.slU s f (s i).c n) ≤ min (s i).b (g.slV s f (s i).c n) then some ⟨(s i).k, (s i).c, (s i).q, max (s i).a (g.slU s f (s i).c n), min (s i).b (g.slV s f (s i).c n)⟩ else none := by
 unfold slO; rw [if_pos h]
end Gd
end Go.Proofs.Ytoncoofmijjgeaa.M
namespace Go.Proofs.Ytoncoofmijjgeaa.Sep
open Go
set_option linter.unusedVariables false
set_option linter.unusedSimpArgs false
def lp42b (w ht s v0 v1 d0 d1 r:Int) (n:Nat) (sk sc sq sa sb:Nat→Int) (f:Int) (i:Nat):LoopS where
 ι:=Nat
 β:=Unit
 pre j:=j≤n∧i<n∧M.Gd.ok (M.Gd.mk w ht s v0 v1 d0 d1 r)∧n≤256∧(∀ i,i<n→M.Gd.Sok (M.Gd.mk w ht s v0 v1 d0 d1 r) ((fun i=>M.Sc.mk (sk i) (sc i) (sq i) (sa i) (sb i)) i))∧0≤f∧f≤100000000
 μ j:=n-j
 next j _ _ _:=j+1
 out _:=()
 early _:=false
 SA j:=[(1,.sl 5 n (fun j=>[SI (sk j),SI (sc j),SI (sq j),SI (sa j),SI (sb j)])),(2,SI f),(3,.ptr 0 0),(9,.vec 1 5 0 (M.fmN (M.Gd.slO (M.Gd.mk w ht s v0 v1 d0 d1 r) (fun i=>M.Sc.mk (sk i) (sc i) (sq i) (sa i) (sb i)) f n) i)),(26,.sl 5 n (fun j=>[SI (sk j),SI (sc j),SI (sq j),SI (sa j),SI (sb j)])),(27,SI n),(28,SI i),(11,.ptr 2 0),(12,SI (M.Gd.slA (M.Gd.mk w ht s v0 v1 d0 d1 r) (fun i=>M.Sc.mk (sk i) (sc i) (sq i) (sa i) (sb i)) f (sc i) j)),(13,SI (M.Gd.slB (M.Gd.mk w ht s v0 v1 d0 d1 r) (fun i=>M.Sc.mk (sk i) (sc i) (sq i) (sa i) (sb i)) f (sc i) j)),(35,.sl 5 n (fun j=>[SI (sk j),SI (sc j),SI (sq j),SI (sa j),SI (sb j)])),(36,SI n),(37,SI j)]
 SH j:=[(0,.cells [SI w,SI ht,SI s,SI v0,SI v1,SI d0,SI d1,SI r]),(1,.row 5 (M.fmN (M.Gd.slO (M.Gd.mk w ht s v0 v1 d0 d1 r) (fun i=>M.Sc.mk (sk i) (sc i) (sq i) (sa i) (sb i)) f n) i) (fun k=>[SI (M.fmR (M.Gd.slO (M.Gd.mk w ht s v0 v1 d0 d1 r) (fun i=>M.Sc.mk (sk i) (sc i) (sq i) (sa i) (sb i)) f n) i k).k,SI (M.fmR (M.Gd.slO (M.Gd.mk w ht s v0 v1 d0 d1 r) (fun i=>M.Sc.mk (sk i) (sc i) (sq i) (sa i) (sb i)) f n) i k).c,SI (M.fmR (M.Gd.slO (M.Gd.mk w ht s v0 v1 d0 d1 r) (fun i=>M.Sc.mk (sk i) (sc i) (sq i) (sa i) (sb i)) f n) i k).q,SI (M.fmR (M.Gd.slO (M.Gd.mk w ht s v0 v1 d0 d1 r) (fun i=>M.Sc.mk (sk i) (sc i) (sq i) (sa i) (sb i)) f n) i k).a,SI (M.fmR (M.Gd.slO (M.Gd.mk w ht s v0 v1 d0 d1 r) (fun i=>M.Sc.mk (sk i) (sc i) (sq i) (sa i) (sb i)) f n) i k).b])),(2,.cells [SI (sk i),SI (sc i),SI (sq i),SI (sa i),SI (sb i)])]
 n0:=3
 NA _:=[(1,.sl 5 n (fun j=>[SI (sk j),SI (sc j),SI (sq j),SI (sa j),SI (sb j)])),(2,SI f),(3,.ptr 0 0),(9,.vec 1 5 0 (M.fmN (M.Gd.slO (M.Gd.mk w ht s v0 v1 d0 d1 r) (fun i=>M.Sc.mk (sk i) (sc i) (sq i) (sa i) (sb i)) f n) i)),(26,.sl 5 n (fun j=>[SI (sk j),SI (sc j),SI (sq j),SI (sa j),SI (sb j)])),(27,SI n),(28,SI i),(11,.ptr 2 0),(12,SI (M.Gd.slA (M.Gd.mk w ht s v0 v1 d0 d1 r) (fun i=>M.Sc.mk (sk i) (sc i) (sq i) (sa i) (sb i)) f (sc i) n)),(13,SI (M.Gd.slB (M.Gd.mk w ht s v0 v1 d0 d1 r) (fun i=>M.Sc.mk (sk i) (sc i) (sq i) (sa i) (sb i)) f (sc i) n))]
 NH _:=[(0,.cells [SI w,SI ht,SI s,SI v0,SI v1,SI d0,SI d1,SI r]),(1,.row 5 (M.fmN (M.Gd.slO (M.Gd.mk w ht s v0 v1 d0 d1 r) (fun i=>M.Sc.mk (sk i) (sc i) (sq i) (sa i) (sb i)) f n) i) (fun k=>[SI (M.fmR (M.Gd.slO (M.Gd.mk w ht s v0 v1 d0 d1 r) (fun i=>M.Sc.mk (sk i) (sc i) (sq i) (sa i) (sb i)) f n) i k).k,SI (M.fmR (M.Gd.slO (M.Gd.mk w ht s v0 v1 d0 d1 r) (fun i=>M.Sc.mk (sk i) (sc i) (sq i) (sa i) (sb i)) f n) i k).c,SI (M.fmR (M.Gd.slO (M.Gd.mk w ht s v0 v1 d0 d1 r) (fun i=>M.Sc.mk (sk i) (sc i) (sq i) (sa i) (sb i)) f n) i k).q,SI (M.fmR (M.Gd.slO (M.Gd.mk w ht s v0 v1 d0 d1 r) (fun i=>M.Sc.mk (sk i) (sc i) (sq i) (sa i) (sb i)) f n) i k).a,SI (M.fmR (M.Gd.slO (M.Gd.mk w ht s v0 v1 d0 d1 r) (fun i=>M.Sc.mk (sk i) (sc i) (sq i) (sa i) (sb i)) f n) i k).b])),(2,.cells [SI (sk i),SI (sc i),SI (sq i),SI (sa i),SI (sb i)])]
 n1:=3
 RA _:=[]
 RH _:=[]
def Rq42b (w ht s v0 v1 d0 d1 r:Int) (n:Nat) (sk sc sq sa sb:Nat→Int) (f:Int) (i:Nat) (j:Nat):Prop:=(fun (z7 z9:Int) (z2:M.Gd) (z8:Nat) (z1:Nat→M.Sc) (z3 z12 z15:Prop)=>(fun (z13 z14:Int) (z4 z6:Nat) (z5:Prop)=>(fun (z10 z16:Int) (z0:Prop)=>(fun (z11:Prop)=>(decide (z9<z7)=true→(0:Int)≤z9∧z9<z7∧z4<n∧(decide (sk z4=(1:Int))=true→M.Gd.ok z2∧M.Gd.cell z2 (sc z4)∧M.Gd.cell z2 (sc i)∧R64 z16∧R64 z10∧R64 (z10+f)∧R64 (z9+(1:Int))∧z5∧n-z8<n-j∧()=()∧z3∧f=f∧z15∧z6=z6∧z3∧z7=z7∧z12∧min z13 z16=M.Gd.slA z2 z1 f (sc i) z8∧max z14 (z10+f)=M.Gd.slB z2 z1 f (sc i) z8∧z11)∧(decide (sk z4=(1:Int))=false→R64 (z9+(1:Int))∧z5∧n-z8<n-j∧()=()∧z3∧f=f∧z15∧z6=z6∧z3∧z7=z7∧z12∧z13=M.Gd.slA z2 z1 f (sc i) z8∧z14=M.Gd.slB z2 z1 f (sc i) z8∧z11))∧(decide (z9<z7)=false→false=false∧z3∧f=f∧z15∧z6=z6∧z3∧z7=z7∧z12∧z13=M.Gd.slA z2 z1 f (sc i) n∧z14=M.Gd.slB z2 z1 f (sc i) n∧z0)) (z3∧z7=z7∧z9+(1:Int)=(↑z8:Int)∧z0)) (sb z4+M.Gd.T1 z2 (sc z4) (sc i)) (sa z4+M.Gd.T0 z2 (sc z4) (sc i)) (w=w∧ht=ht∧s=s∧v0=v0∧v1=v1∧d0=d0∧d1=d1∧r=r∧z6≤z6∧(∀ (k:Nat),k<z6→(M.fmR (M.Gd.slO z2 z1 f n) i k).k=(M.fmR (M.Gd.slO z2 z1 f n) i k).k∧(M.fmR (M.Gd.slO z2 z1 f n) i k).c=(M.fmR (M.Gd.slO z2 z1 f n) i k).c∧(M.fmR (M.Gd.slO z2 z1 f n) i k).q=(M.fmR (M.Gd.slO z2 z1 f n) i k).q∧(M.fmR (M.Gd.slO z2 z1 f n) i k).a=(M.fmR (M.Gd.slO z2 z1 f n) i k).a∧(M.fmR (M.Gd.slO z2 z1 f n) i k).b=(M.fmR (M.Gd.slO z2 z1 f n) i k).b)∧sk i=sk i∧sc i=sc i∧sq i=sq i∧sa i=sa i∧sb i=sb i∧True)) (M.Gd.slA z2 z1 f (sc i) j) (M.Gd.slB z2 z1 f (sc i) j) (Int.toNat z9) (M.fmN (M.Gd.slO z2 z1 f n) i) (z8≤n∧i<n∧M.Gd.ok z2∧n≤(256:Nat)∧(∀ (i:Nat),i<n→M.Gd.Sok z2 (M.Sc.mk (sk i) (sc i) (sq i) (sa i) (sb i)))∧(0:Int)≤f∧f≤(100000000:Int))) (↑n:Int) (↑j:Int) (M.Gd.mk w ht s v0 v1 d0 d1 r) (j+(1:Nat)) (fun i=>M.Sc.mk (sk i) (sc i) (sq i) (sa i) (sb i)) (n=n∧∀ (k:Nat),k<n→sk k=sk k∧sc k=sc k∧sq k=sq k∧sa k=sa k∧sb k=sb k) ((↑i:Int)=(↑i:Int)) ((0:Nat)=(0:Nat))
theorem q42b (w ht s v0 v1 d0 d1 r:Int) (n:Nat) (sk sc sq sa sb:Nat→Int) (f:Int) (i:Nat) (j:Nat):VL true [] [(64,pureE e64)] YS.none Try.f42 0 [0,1,2,3,6,7,8,9,11,12,13,15,16,21,25,26,27,28,29,34,35,36,37,38,43,87] [] 2 (lp42b w ht s v0 v1 d0 d1 r n sk sc sq sa sb f i) (j)=Rq42b w ht s v0 v1 d0 d1 r n sk sc sq sa sb f i j:=by kernel_rfl
theorem peq42b (w ht s v0 v1 d0 d1 r:Int) (n:Nat) (sk sc sq sa sb:Nat→Int) (f:Int) (i:Nat) (j:Nat):(lp42b w ht s v0 v1 d0 d1 r n sk sc sq sa sb f i).pre (j)=(j≤n ∧
 i<n ∧
  M.Gd.ok (M.Gd.mk w ht s v0 v1 d0 d1 r) ∧
   n≤(256:Nat) ∧
    (∀ (i:Nat),i<n→M.Gd.Sok (M.Gd.mk w ht s v0 v1 d0 d1 r) (M.Sc.mk (sk i) (sc i) (sq i) (sa i) (sb i))) ∧
     (0:Int)≤f∧f≤(100000000:Int)):=by kernel_rfl
theorem bq42b (w ht s v0 v1 d0 d1 r:Int) (n:Nat) (sk sc sq sa sb:Nat→Int) (f:Int) (i:Nat) (j:Nat) (hp:j≤n ∧
 i<n ∧
  M.Gd.ok (M.Gd.mk w ht s v0 v1 d0 d1 r) ∧
   n≤(256:Nat) ∧
    (∀ (i:Nat),i<n→M.Gd.Sok (M.Gd.mk w ht s v0 v1 d0 d1 r) (M.Sc.mk (sk i) (sc i) (sq i) (sa i) (sb i))) ∧
     (0:Int)≤f∧f≤(100000000:Int)):Rq42b w ht s v0 v1 d0 d1 r n sk sc sq sa sb f i j:=by
 unfold Rq42b
 dsimp -iota -proj -eta -zeta only
 obtain ⟨h1,h2,hk,hn,hs,f1,f2⟩:=id hp
 have hss:(∀ k,k<n→M.Gd.Sok (M.Gd.mk w ht s v0 v1 d0 d1 r) (M.Sc.mk (sk k) (sc k) (sq k) (sa k) (sb k))):=hs
 have r1:R64 ((j:Int)+1):=by unfold R64; omega
 simp only [Int.toNat_natCast,r1]
 by_cases hl:j<n
 ·have hl':(j:Int)<n:=by omega
  have hz:=hs j hl
  have hzi:=hs i h2
  have hc1:M.Gd.cell (M.Gd.mk w ht s v0 v1 d0 d1 r) (sc j):=hz.2.1
  have hc2:M.Gd.cell (M.Gd.mk w ht s v0 v1 d0 d1 r) (sc i):=hzi.2.1
  by_cases c1:sk j=1
  ·have bd:=M.Gd.sl_one (g:=(M.Gd.mk w ht s v0 v1 d0 d1 r)) (s:=(fun i=>M.Sc.mk (sk i) (sc i) (sq i) (sa i) (sb i))) (f:=f) (c:=sc i) (j:=j) hk hz hc2 ⟨f1,f2⟩
   simp only at bd
   have r2:R64 (sa j+M.Gd.T0 (M.Gd.mk w ht s v0 v1 d0 d1 r) (sc j) (sc i)):=by unfold R64; omega
   have r3:R64 (sb j+M.Gd.T1 (M.Gd.mk w ht s v0 v1 d0 d1 r) (sc j) (sc i)):=by unfold R64; omega
   have r4:R64 (sb j+M.Gd.T1 (M.Gd.mk w ht s v0 v1 d0 d1 r) (sc j) (sc i)+f):=by unfold R64; omega
   obtain ⟨e1,e2⟩:=M.Gd.slA_step (g:=(M.Gd.mk w ht s v0 v1 d0 d1 r)) (s:=(fun i=>M.Sc.mk (sk i) (sc i) (sq i) (sa i) (sb i))) (f:=f) (c:=sc i) (n:=n) hk hs hc2 ⟨f1,f2⟩ hl c1
   simp only [e1,e2]
   clear e1 e2 bd hz hzi
   simp [hl,hl',hk,hn,c1,hc1,hc2,r2,r3,r4,f1,f2,h1,h2]
   try (repeat' apply And.intro)
   all_goals first | omega | exact hs
  ·obtain ⟨e0,e1,e2,e3,e4⟩:=M.Gd.sl_stay (g:=(M.Gd.mk w ht s v0 v1 d0 d1 r)) (s:=(fun i=>M.Sc.mk (sk i) (sc i) (sq i) (sa i) (sb i))) (f:=f) (c:=sc i) (j:=j) c1
   simp only [e0,e1,e2,e3,e4]
   clear e0 e1 e2 e3 e4 hz hzi
   simp [hl,hl',hk,hn,c1,f1,f2,h1,h2]
   try (repeat' apply And.intro)
   all_goals first | omega | exact hs
 ·have e:j=n:=by omega
  simp [e]
theorem t42b (w ht s v0 v1 d0 d1 r:Int) (n:Nat) (sk sc sq sa sb:Nat→Int) (f:Int) (i:Nat) {F:Fence} (hF:FOK F) (Y:YEnv PP YS.none):∀ Q A H nx,loopT false Try.f42.ntmps 0 (lp42b w ht s v0 v1 d0 d1 r n sk sc sq sa sb f i) (fun _ _ _=>(0:Nat)) Q A H nx→WPS Y F Try.f42.ntmps 0 (.block 2 (blkAt 2 Try.f42)) Q A H nx :=
 loopW (E:=[]) (.nil) (O:=[(64,pureE e64)]) (.cons (pureE_ok s64) (.nil)) (ck:=true) (L:=[0,1,2,3,6,7,8,9,11,12,13,15,16,21,25,26,27,28,29,34,35,36,37,38,43,87]) (f:=Try.f42) (m:=0) (id:=2) (l:=(lp42b w ht s v0 v1 d0 d1 r n sk sc sq sa sb f i)) (LI:=fun i=>[]) Y hF (by kernel_rfl) (fun _=>.nil) (by
  rintro j hp
  exact Hold.of (q42b w ht s v0 v1 d0 d1 r n sk sc sq sa sb f i j) (bq42b w ht s v0 v1 d0 d1 r n sk sc sq sa sb f i j ((peq42b w ht s v0 v1 d0 d1 r n sk sc sq sa sb f i j).mp hp)))
def lp42 (w ht s v0 v1 d0 d1 r:Int) (n:Nat) (sk sc sq sa sb:Nat→Int) (f:Int):LoopS where
 ι:=Nat
 β:=Unit
 pre i:=i≤n∧M.Gd.ok (M.Gd.mk w ht s v0 v1 d0 d1 r)∧n≤256∧(∀ i,i<n→M.Gd.Sok (M.Gd.mk w ht s v0 v1 d0 d1 r) ((fun i=>M.Sc.mk (sk i) (sc i) (sq i) (sa i) (sb i)) i))∧0≤f∧f≤100000000
 μ i:=n-i
 next i _ _ _:=i+1
 out _:=()
 early _:=false
 SA i:=[(1,.sl 5 n (fun j=>[SI (sk j),SI (sc j),SI (sq j),SI (sa j),SI (sb j)])),(2,SI f),(3,.ptr 0 0),(9,.vec 1 5 0 (M.fmN (M.Gd.slO (M.Gd.mk w ht s v0 v1 d0 d1 r) (fun i=>M.Sc.mk (sk i) (sc i) (sq i) (sa i) (sb i)) f n) i)),(26,.sl 5 n (fun j=>[SI (sk j),SI (sc j),SI (sq j),SI (sa j),SI (sb j)])),(27,SI n),(28,SI i)]
 SH i:=[(0,.cells [SI w,SI ht,SI s,SI v0,SI v1,SI d0,SI d1,SI r]),(1,.row 5 (M.fmN (M.Gd.slO (M.Gd.mk w ht s v0 v1 d0 d1 r) (fun i=>M.Sc.mk (sk i) (sc i) (sq i) (sa i) (sb i)) f n) i) (fun k=>[SI (M.fmR (M.Gd.slO (M.Gd.mk w ht s v0 v1 d0 d1 r) (fun i=>M.Sc.mk (sk i) (sc i) (sq i) (sa i) (sb i)) f n) i k).k,SI (M.fmR (M.Gd.slO (M.Gd.mk w ht s v0 v1 d0 d1 r) (fun i=>M.Sc.mk (sk i) (sc i) (sq i) (sa i) (sb i)) f n) i k).c,SI (M.fmR (M.Gd.slO (M.Gd.mk w ht s v0 v1 d0 d1 r) (fun i=>M.Sc.mk (sk i) (sc i) (sq i) (sa i) (sb i)) f n) i k).q,SI (M.fmR (M.Gd.slO (M.Gd.mk w ht s v0 v1 d0 d1 r) (fun i=>M.Sc.mk (sk i) (sc i) (sq i) (sa i) (sb i)) f n) i k).a,SI (M.fmR (M.Gd.slO (M.Gd.mk w ht s v0 v1 d0 d1 r) (fun i=>M.Sc.mk (sk i) (sc i) (sq i) (sa i) (sb i)) f n) i k).b]))]
 n0:=2
 NA _:=[(9,.vec 0 5 0 (M.fmN (M.Gd.slO (M.Gd.mk w ht s v0 v1 d0 d1 r) (fun i=>M.Sc.mk (sk i) (sc i) (sq i) (sa i) (sb i)) f n) n))]
 NH _:=[(0,.row 5 (M.fmN (M.Gd.slO (M.Gd.mk w ht s v0 v1 d0 d1 r) (fun i=>M.Sc.mk (sk i) (sc i) (sq i) (sa i) (sb i)) f n) n) (fun k=>[SI (M.fmR (M.Gd.slO (M.Gd.mk w ht s v0 v1 d0 d1 r) (fun i=>M.Sc.mk (sk i) (sc i) (sq i) (sa i) (sb i)) f n) n k).k,SI (M.fmR (M.Gd.slO (M.Gd.mk w ht s v0 v1 d0 d1 r) (fun i=>M.Sc.mk (sk i) (sc i) (sq i) (sa i) (sb i)) f n) n k).c,SI (M.fmR (M.Gd.slO (M.Gd.mk w ht s v0 v1 d0 d1 r) (fun i=>M.Sc.mk (sk i) (sc i) (sq i) (sa i) (sb i)) f n) n k).q,SI (M.fmR (M.Gd.slO (M.Gd.mk w ht s v0 v1 d0 d1 r) (fun i=>M.Sc.mk (sk i) (sc i) (sq i) (sa i) (sb i)) f n) n k).a,SI (M.fmR (M.Gd.slO (M.Gd.mk w ht s v0 v1 d0 d1 r) (fun i=>M.Sc.mk (sk i) (sc i) (sq i) (sa i) (sb i)) f n) n k).b]))]
 n1:=1
 RA _:=[]
 RH _:=[]
def Rq42 (w ht s v0 v1 d0 d1 r:Int) (n:Nat) (sk sc sq sa sb:Nat→Int) (f:Int) (i:Nat):Prop:=(fun (z11 z17:Int) (z1:M.Gd) (z9 z13:Nat) (z0:Nat→M.Sc) (z2:Prop)=>(fun (z14:Bool) (z10:Int) (z4 z7 z8 z15:Nat) (z3 z5 z12:Nat→M.Sc) (z6 z20 z21:Prop)=>(fun (z16 z18 z19:Prop)=>(decide (z17<z11)=true→(0:Int)≤z17∧z17<z11∧z8<n∧(decide (sk z8=(2:Int))=true→(z13≤n∧i<n∧z6)∧(z2∧f=f∧z13=z13∧z4=z4∧z2∧z11=z11∧z17=z17∧(1099511627776:Int)=M.Gd.slA z1 z0 f (sc i) z13∧(- 1:Int)=M.Gd.slB z1 z0 f (sc i) z13∧z2∧z11=z11∧(0:Int)=(↑z13:Int)∧w=w∧ht=ht∧s=s∧v0=v0∧v1=v1∧d0=d0∧d1=d1∧r=r∧z4≤z4∧(∀ (k:Nat),k<z4→(z3 k).k=(z3 k).k∧(z3 k).c=(z3 k).c∧(z3 k).q=(z3 k).q∧(z3 k).a=(z3 k).a∧(z3 k).b=(z3 k).b)∧sk z8=sk i∧sc z8=sc i∧sq z8=sq i∧sa z8=sa i∧sb z8=sb i∧True)∧(false=false→(z14=true→R64 z10∧z19∧z21∧()=()∧z2∧f=f∧z13=z13∧z4=z7∧z2∧z11=z11∧z18∧w=w∧ht=ht∧s=s∧v0=v0∧v1=v1∧d0=d0∧d1=d1∧r=r∧z7≤z4∧(∀ (k:Nat),k<z7→(z3 k).k=(z5 k).k∧(z3 k).c=(z5 k).c∧(z3 k).q=(z5 k).q∧(z3 k).a=(z5 k).a∧(z3 k).b=(z5 k).b)∧True)∧(z14=false→z13+z9≤z9∧z20∧z4≤z4∧z16∧R64 z10∧z19∧z21∧()=()∧z2∧f=f∧z13=z13∧z4+z9=z7∧z2∧z11=z11∧z18∧w=w∧ht=ht∧s=s∧v0=v0∧v1=v1∧d0=d0∧d1=d1∧r=r∧z7≤z4+z9∧(∀ (k:Nat),k<z7→(bif decide (k<z4) then (z3 k).k else sk i)=(z5 k).k∧(bif decide (k<z4) then (z3 k).c else sc i)=(z5 k).c∧(bif decide (k<z4) then (z3 k).q else sq i)=(z5 k).q∧(bif decide (k<z4) then (z3 k).a else max (sa i) (M.Gd.slA z1 z0 f (sc i) n))=(z5 k).a∧(bif decide (k<z4) then (z3 k).b else min (sb i) (M.Gd.slB z1 z0 f (sc i) n))=(z5 k).b)∧True))∧(false=true→false=true∧True))∧(decide (sk z8=(2:Int))=false→z13+z9≤z9∧z20∧z4≤z4∧z16∧R64 z10∧z19∧z21∧()=()∧z2∧f=f∧z13=z13∧z4+z9=z7∧z2∧z11=z11∧z18∧w=w∧ht=ht∧s=s∧v0=v0∧v1=v1∧d0=d0∧d1=d1∧r=r∧z7≤z4+z9∧(∀ (k:Nat),k<z7→(bif decide (k<z4) then (z3 k).k else sk z8)=(z5 k).k∧(bif decide (k<z4) then (z3 k).c else sc z8)=(z5 k).c∧(bif decide (k<z4) then (z3 k).q else sq z8)=(z5 k).q∧(bif decide (k<z4) then (z3 k).a else sa z8)=(z5 k).a∧(bif decide (k<z4) then (z3 k).b else sb z8)=(z5 k).b)∧True))∧(decide (z17<z11)=false→false=false∧z13=z13∧z4=z15∧z15≤z4∧(∀ (k:Nat),k<z15→(z3 k).k=(z12 k).k∧(z3 k).c=(z12 k).c∧(z3 k).q=(z12 k).q∧(z3 k).a=(z12 k).a∧(z3 k).b=(z12 k).b)∧True)) ((z4+z9)*(40:Nat)≤(140737488355328:Nat)) (z10=(↑(i+z9):Int)) (i+z9≤n∧z6)) (decide (min (sb i) (M.Gd.slB z1 z0 f (sc i) n)<max (sa i) (M.Gd.slA z1 z0 f (sc i) n))) (z17+(1:Int)) (M.fmN (M.Gd.slO z1 z0 f n) i) (M.fmN (M.Gd.slO z1 z0 f n) (i+z9)) (Int.toNat z17) (M.fmN (M.Gd.slO z1 z0 f n) n) (M.fmR (M.Gd.slO z1 z0 f n) i) (M.fmR (M.Gd.slO z1 z0 f n) (i+z9)) (M.fmR (M.Gd.slO z1 z0 f n) n) (M.Gd.ok z1∧n≤(256:Nat)∧(∀ (i:Nat),i<n→M.Gd.Sok z1 (M.Sc.mk (sk i) (sc i) (sq i) (sa i) (sb i)))∧(0:Int)≤f∧f≤(100000000:Int)) (∀ (k:Nat),k<z9→true=true) (n-(i+z9)<n-i)) (↑n:Int) (↑i:Int) (M.Gd.mk w ht s v0 v1 d0 d1 r) (1:Nat) (0:Nat) (fun i=>M.Sc.mk (sk i) (sc i) (sq i) (sa i) (sb i)) (n=n∧∀ (k:Nat),k<n→sk k=sk k∧sc k=sc k∧sq k=sq k∧sa k=sa k∧sb k=sb k)
theorem q42 (w ht s v0 v1 d0 d1 r:Int) (n:Nat) (sk sc sq sa sb:Nat→Int) (f:Int) (i:Nat):VL true [] [] YS.none Try.f42 0 [0,1,2,3,6,7,8,9,11,12,13,15,16,21,25,26,27,28,29,34,35,36,37,38,43,87] [(2,loopT false Try.f42.ntmps 0 (lp42b w ht s v0 v1 d0 d1 r n sk sc sq sa sb f i) (fun _ _ _=>(0:Nat)))] 0 (lp42 w ht s v0 v1 d0 d1 r n sk sc sq sa sb f) (i)=Rq42 w ht s v0 v1 d0 d1 r n sk sc sq sa sb f i:=by kernel_rfl
theorem peq42 (w ht s v0 v1 d0 d1 r:Int) (n:Nat) (sk sc sq sa sb:Nat→Int) (f:Int) (i:Nat):(lp42 w ht s v0 v1 d0 d1 r n sk sc sq sa sb f).pre (i)=(i≤n ∧
 M.Gd.ok (M.Gd.mk w ht s v0 v1 d0 d1 r) ∧
  n≤(256:Nat) ∧
   (∀ (i:Nat),i<n→M.Gd.Sok (M.Gd.mk w ht s v0 v1 d0 d1 r) (M.Sc.mk (sk i) (sc i) (sq i) (sa i) (sb i))) ∧
    (0:Int)≤f∧f≤(100000000:Int)):=by kernel_rfl
theorem bq42 (w ht s v0 v1 d0 d1 r:Int) (n:Nat) (sk sc sq sa sb:Nat→Int) (f:Int) (i:Nat) (hp:i≤n ∧
 M.Gd.ok (M.Gd.mk w ht s v0 v1 d0 d1 r) ∧
  n≤(256:Nat) ∧
   (∀ (i:Nat),i<n→M.Gd.Sok (M.Gd.mk w ht s v0 v1 d0 d1 r) (M.Sc.mk (sk i) (sc i) (sq i) (sa i) (sb i))) ∧
    (0:Int)≤f∧f≤(100000000:Int)):Rq42 w ht s v0 v1 d0 d1 r n sk sc sq sa sb f i:=by
 unfold Rq42
 dsimp -iota -proj -eta -zeta only
 obtain ⟨h1,hk,hn,hs,f1,f2⟩:=id hp
 have hss:(∀ k,k<n→M.Gd.Sok (M.Gd.mk w ht s v0 v1 d0 d1 r) (M.Sc.mk (sk k) (sc k) (sq k) (sa k) (sb k))):=hs
 have r1:R64 ((i:Int)+1):=by unfold R64; omega
 have hlen:=M.fmN_le (o:=(M.Gd.slO (M.Gd.mk w ht s v0 v1 d0 d1 r) (fun i=>M.Sc.mk (sk i) (sc i) (sq i) (sa i) (sb i)) f n)) i
 simp only [Int.toNat_natCast,r1]
 by_cases hl:i<n
 ·have hl':(i:Int)<n:=by omega
  have hz:=hs i hl
  have hc:M.Gd.cell (M.Gd.mk w ht s v0 v1 d0 d1 r) (sc i):=hz.2.1
  obtain ⟨z0,z1,z2,z3,z4⟩:=@M.Gd.sl_zero (M.Gd.mk w ht s v0 v1 d0 d1 r) (fun i=>M.Sc.mk (sk i) (sc i) (sq i) (sa i) (sb i)) f (sc i)
  by_cases c1:sk i=2
  ·have ho:=M.Gd.slO_quake (g:=(M.Gd.mk w ht s v0 v1 d0 d1 r)) (s:=(fun i=>M.Sc.mk (sk i) (sc i) (sq i) (sa i) (sb i))) (f:=f) (n:=n) (i:=i) c1 hz
   simp only at ho
   obtain ⟨u,hu⟩ : ∃ u,u=max (sa i) (M.Gd.slA (M.Gd.mk w ht s v0 v1 d0 d1 r) (fun i=>M.Sc.mk (sk i) (sc i) (sq i) (sa i) (sb i)) f (sc i) n):=⟨_,rfl⟩
   obtain ⟨v,hv⟩ : ∃ v,v=min (sb i) (M.Gd.slB (M.Gd.mk w ht s v0 v1 d0 d1 r) (fun i=>M.Sc.mk (sk i) (sc i) (sq i) (sa i) (sb i)) f (sc i) n):=⟨_,rfl⟩
   rw [← hu,← hv] at ho
   simp only [← hu,← hv]
   by_cases c2:u≤v
   ·rw [if_pos c2] at ho
    obtain ⟨e1,e2⟩:=M.fm_step ho
    simp only [e1]
    obtain ⟨na,hna⟩ : ∃ na,na=(M.fmN (M.Gd.slO (M.Gd.mk w ht s v0 v1 d0 d1 r) (fun i=>M.Sc.mk (sk i) (sc i) (sq i) (sa i) (sb i)) f n) i):=⟨_,rfl⟩
    simp only [← hna] at e2 hlen ⊢
    have e3:∀ k,k<na+1→(bif decide (k<na) then (M.fmR (M.Gd.slO (M.Gd.mk w ht s v0 v1 d0 d1 r) (fun i=>M.Sc.mk (sk i) (sc i) (sq i) (sa i) (sb i)) f n) i k).k else sk i)=(M.fmR (M.Gd.slO (M.Gd.mk w ht s v0 v1 d0 d1 r) (fun i=>M.Sc.mk (sk i) (sc i) (sq i) (sa i) (sb i)) f n) (i+1) k).k∧(bif decide (k<na) then (M.fmR (M.Gd.slO (M.Gd.mk w ht s v0 v1 d0 d1 r) (fun i=>M.Sc.mk (sk i) (sc i) (sq i) (sa i) (sb i)) f n) i k).c else sc i)=(M.fmR (M.Gd.slO (M.Gd.mk w ht s v0 v1 d0 d1 r) (fun i=>M.Sc.mk (sk i) (sc i) (sq i) (sa i) (sb i)) f n) (i+1) k).c∧(bif decide (k<na) then (M.fmR (M.Gd.slO (M.Gd.mk w ht s v0 v1 d0 d1 r) (fun i=>M.Sc.mk (sk i) (sc i) (sq i) (sa i) (sb i)) f n) i k).q else sq i)=(M.fmR (M.Gd.slO (M.Gd.mk w ht s v0 v1 d0 d1 r) (fun i=>M.Sc.mk (sk i) (sc i) (sq i) (sa i) (sb i)) f n) (i+1) k).q∧(bif decide (k<na) then (M.fmR (M.Gd.slO (M.Gd.mk w ht s v0 v1 d0 d1 r) (fun i=>M.Sc.mk (sk i) (sc i) (sq i) (sa i) (sb i)) f n) i k).a else u)=(M.fmR (M.Gd.slO (M.Gd.mk w ht s v0 v1 d0 d1 r) (fun i=>M.Sc.mk (sk i) (sc i) (sq i) (sa i) (sb i)) f n) (i+1) k).a∧(bif decide (k<na) then (M.fmR (M.Gd.slO (M.Gd.mk w ht s v0 v1 d0 d1 r) (fun i=>M.Sc.mk (sk i) (sc i) (sq i) (sa i) (sb i)) f n) i k).b else v)=(M.fmR (M.Gd.slO (M.Gd.mk w ht s v0 v1 d0 d1 r) (fun i=>M.Sc.mk (sk i) (sc i) (sq i) (sa i) (sb i)) f n) (i+1) k).b:=fun k hk2=>by
     rw [e2 k hk2]
     by_cases d1:k<na <;> simp [d1]
    clear hu hv ho e1 e2 hna
    simp only [c1] at e3 hz
    simp [hl,hl',c1,c2,hk,hn,f1,f2,z0,z1,z2,z3,z4]
    try (repeat' apply And.intro)
    all_goals first | omega | exact hs | exact fun k hk2=>by simpa using e3 k hk2
   ·rw [if_neg c2] at ho
    obtain ⟨e1,e2⟩:=M.fm_stay ho
    simp only [e1,e2]
    clear hu hv ho e1 e2
    simp only [c1] at hz
    simp [hl,hl',c1,c2,hk,hn,f1,f2,z0,z1,z2,z3,z4]
    try (repeat' apply And.intro)
    all_goals first | omega | exact hs | exact fun _=>⟨⟨by omega,hs⟩,by omega⟩
  ·have ho:=M.Gd.slO_other (g:=(M.Gd.mk w ht s v0 v1 d0 d1 r)) (s:=(fun i=>M.Sc.mk (sk i) (sc i) (sq i) (sa i) (sb i))) (f:=f) (n:=n) (i:=i) c1
   obtain ⟨e1,e2⟩:=M.fm_step ho
   simp only [e1]
   obtain ⟨na,hna⟩ : ∃ na,na=(M.fmN (M.Gd.slO (M.Gd.mk w ht s v0 v1 d0 d1 r) (fun i=>M.Sc.mk (sk i) (sc i) (sq i) (sa i) (sb i)) f n) i):=⟨_,rfl⟩
   simp only [← hna] at e2 hlen ⊢
   have e3:∀ k,k<na+1→(bif decide (k<na) then (M.fmR (M.Gd.slO (M.Gd.mk w ht s v0 v1 d0 d1 r) (fun i=>M.Sc.mk (sk i) (sc i) (sq i) (sa i) (sb i)) f n) i k).k else sk i)=(M.fmR (M.Gd.slO (M.Gd.mk w ht s v0 v1 d0 d1 r) (fun i=>M.Sc.mk (sk i) (sc i) (sq i) (sa i) (sb i)) f n) (i+1) k).k∧(bif decide (k<na) then (M.fmR (M.Gd.slO (M.Gd.mk w ht s v0 v1 d0 d1 r) (fun i=>M.Sc.mk (sk i) (sc i) (sq i) (sa i) (sb i)) f n) i k).c else sc i)=(M.fmR (M.Gd.slO (M.Gd.mk w ht s v0 v1 d0 d1 r) (fun i=>M.Sc.mk (sk i) (sc i) (sq i) (sa i) (sb i)) f n) (i+1) k).c∧(bif decide (k<na) then (M.fmR (M.Gd.slO (M.Gd.mk w ht s v0 v1 d0 d1 r) (fun i=>M.Sc.mk (sk i) (sc i) (sq i) (sa i) (sb i)) f n) i k).q else sq i)=(M.fmR (M.Gd.slO (M.Gd.mk w ht s v0 v1 d0 d1 r) (fun i=>M.Sc.mk (sk i) (sc i) (sq i) (sa i) (sb i)) f n) (i+1) k).q∧(bif decide (k<na) then (M.fmR (M.Gd.slO (M.Gd.mk w ht s v0 v1 d0 d1 r) (fun i=>M.Sc.mk (sk i) (sc i) (sq i) (sa i) (sb i)) f n) i k).a else sa i)=(M.fmR (M.Gd.slO (M.Gd.mk w ht s v0 v1 d0 d1 r) (fun i=>M.Sc.mk (sk i) (sc i) (sq i) (sa i) (sb i)) f n) (i+1) k).a∧(bif decide (k<na) then (M.fmR (M.Gd.slO (M.Gd.mk w ht s v0 v1 d0 d1 r) (fun i=>M.Sc.mk (sk i) (sc i) (sq i) (sa i) (sb i)) f n) i k).b else sb i)=(M.fmR (M.Gd.slO (M.Gd.mk w ht s v0 v1 d0 d1 r) (fun i=>M.Sc.mk (sk i) (sc i) (sq i) (sa i) (sb i)) f n) (i+1) k).b:=fun k hk2=>by
    rw [e2 k hk2]
    by_cases d1:k<na <;> simp [d1]
   clear ho e1 e2 hna
   simp [hl,hl',c1,hk,hn,f1,f2]
   try (repeat' apply And.intro)
   all_goals first | omega | exact hs | exact fun k hk2=>by simpa using e3 k hk2
 ·have e:i=n:=by omega
  subst e
  simp
theorem t42 (w ht s v0 v1 d0 d1 r:Int) (n:Nat) (sk sc sq sa sb:Nat→Int) (f:Int) {F:Fence} (hF:FOK F) (Y:YEnv PP YS.none):∀ Q A H nx,loopT false Try.f42.ntmps 0 (lp42 w ht s v0 v1 d0 d1 r n sk sc sq sa sb f) (fun _ _ _=>(0:Nat)) Q A H nx→WPS Y F Try.f42.ntmps 0 (.block 0 (blkAt 0 Try.f42)) Q A H nx :=
 loopW (E:=[]) (.nil) (O:=[]) (.nil) (ck:=true) (L:=[0,1,2,3,6,7,8,9,11,12,13,15,16,21,25,26,27,28,29,34,35,36,37,38,43,87]) (f:=Try.f42) (m:=0) (id:=0) (l:=(lp42 w ht s v0 v1 d0 d1 r n sk sc sq sa sb f)) (LI:=fun (i:Nat)=>[(2,loopT false Try.f42.ntmps 0 (lp42b w ht s v0 v1 d0 d1 r n sk sc sq sa sb f i) (fun _ _ _=>(0:Nat)))]) Y hF (by kernel_rfl) (fun (i:Nat)=>.cons (by kernel_rfl) (t42b w ht s v0 v1 d0 d1 r n sk sc sq sa sb f i hF Y) (.nil)) (by
  rintro i hp
  exact Hold.of (q42 w ht s v0 v1 d0 d1 r n sk sc sq sa sb f i) (bq42 w ht s v0 v1 d0 d1 r n sk sc sq sa sb f i ((peq42 w ht s v0 v1 d0 d1 r n sk sc sq sa sb f i).mp hp)))
def e42:List SV→Option (List Prop × SV)
 | [.agg [.int .i64 w,.int .i64 ht,.int .i64 s,.int .i64 v0,.int .i64 v1,.int .i64 d0,.int .i64 d1,.int .i64 r],.sl 5 n g_1,.int .i64 f]=>some ([Row 5 n g_1,n≤100000],.tup [.sl 5 (if M.Gd.slE (M.Gd.mk w ht s v0 v1 d0 d1 r) (fun i=>M.Sc.mk ((cI g_1 0) i) ((cI g_1 1) i) ((cI g_1 2) i) ((cI g_1 3) i) ((cI g_1 4) i)) f n=0 then (M.fmN (M.Gd.slO (M.Gd.mk w ht s v0 v1 d0 d1 r) (fun i=>M.Sc.mk ((cI g_1 0) i) ((cI g_1 1) i) ((cI g_1 2) i) ((cI g_1 3) i) ((cI g_1 4) i)) f n) n) else 0) (fun k=>[SI (M.fmR (M.Gd.slO (M.Gd.mk w ht s v0 v1 d0 d1 r) (fun i=>M.Sc.mk ((cI g_1 0) i) ((cI g_1 1) i) ((cI g_1 2) i) ((cI g_1 3) i) ((cI g_1 4) i)) f n) n k).k,SI (M.fmR (M.Gd.slO (M.Gd.mk w ht s v0 v1 d0 d1 r) (fun i=>M.Sc.mk ((cI g_1 0) i) ((cI g_1 1) i) ((cI g_1 2) i) ((cI g_1 3) i) ((cI g_1 4) i)) f n) n k).c,SI (M.fmR (M.Gd.slO (M.Gd.mk w ht s v0 v1 d0 d1 r) (fun i=>M.Sc.mk ((cI g_1 0) i) ((cI g_1 1) i) ((cI g_1 2) i) ((cI g_1 3) i) ((cI g_1 4) i)) f n) n k).q,SI (M.fmR (M.Gd.slO (M.Gd.mk w ht s v0 v1 d0 d1 r) (fun i=>M.Sc.mk ((cI g_1 0) i) ((cI g_1 1) i) ((cI g_1 2) i) ((cI g_1 3) i) ((cI g_1 4) i)) f n) n k).a,SI (M.fmR (M.Gd.slO (M.Gd.mk w ht s v0 v1 d0 d1 r) (fun i=>M.Sc.mk ((cI g_1 0) i) ((cI g_1 1) i) ((cI g_1 2) i) ((cI g_1 3) i) ((cI g_1 4) i)) f n) n k).b]),SI (M.Gd.slE (M.Gd.mk w ht s v0 v1 d0 d1 r) (fun i=>M.Sc.mk ((cI g_1 0) i) ((cI g_1 1) i) ((cI g_1 2) i) ((cI g_1 3) i) ((cI g_1 4) i)) f n)])
 | _=>none
def Rr42 (w ht s v0 v1 d0 d1 r:Int) (n:Nat) (sk sc sq sa sb:Nat→Int) (f:Int):Prop:=(fun (z7:Bool) (z1:M.Gd) (z5:Nat) (z0:Nat→M.Sc) (z3:Prop)=>(fun (z8:Bool) (z9:Int) (z6:Nat) (z2:Nat→M.Sc)=>(fun (z4:Nat)=>z3∧n≤(100000:Nat)∧(z8=true→z4=z5∧(M.Gd.csE z1 n z0)=z9)∧(z8=false→(z7=true→z4=z5∧(3:Int)=z9)∧(z7=false→(z5≤n∧M.Gd.ok z1∧n≤(256:Nat)∧(∀ (i:Nat),i<n→M.Gd.Sok z1 (M.Sc.mk (sk i) (sc i) (sq i) (sa i) (sb i)))∧(0:Int)≤f∧f≤(100000000:Int))∧((n=n∧z3)∧f=f∧M.fmN (M.Gd.slO z1 z0 f n) z5=z5∧(n=n∧z3)∧(↑n:Int)=(↑n:Int)∧(0:Int)=(↑z5:Int)∧w=w∧ht=ht∧s=s∧v0=v0∧v1=v1∧d0=d0∧d1=d1∧r=r∧M.fmN (M.Gd.slO z1 z0 f n) z5=z5∧True)∧(false=false→z5+z6≤z6∧((z6=z4)∧∀ (k:Nat),k<z6→(z2 (z5+k)).k=(z2 k).k∧(z2 (z5+k)).c=(z2 k).c∧(z2 (z5+k)).q=(z2 k).q∧(z2 (z5+k)).a=(z2 k).a∧(z2 (z5+k)).b=(z2 k).b)∧(0:Int)=z9)∧(false=true→False)))) (if z9=(0:Int) then z6 else z5)) (!decide ((M.Gd.csE z1 n z0)=(0:Int))) (M.Gd.slE z1 z0 f n) (M.fmN (M.Gd.slO z1 z0 f n) n) (M.fmR (M.Gd.slO z1 z0 f n) n)) (!decide ((0:Int)≤f∧f≤(100000000:Int))) (M.Gd.mk w ht s v0 v1 d0 d1 r) (0:Nat) (fun i=>M.Sc.mk (sk i) (sc i) (sq i) (sa i) (sb i)) (∀ (k:Nat),k<n→sk k=sk k∧sc k=sc k∧sq k=sq k∧sa k=sa k∧sb k=sb k)
theorem r42 (w ht s v0 v1 d0 d1 r:Int) (n:Nat) (sk sc sq sa sb:Nat→Int) (f:Int):V true [] [(40,pureE e40),(67,pureE e67)] Try.f42 [0,1,2,3,6,7,8,9,11,12,13,15,16,21,25,26,27,28,29,34,35,36,37,38,43,87] [(0,loopT false Try.f42.ntmps 0 (lp42 w ht s v0 v1 d0 d1 r n sk sc sq sa sb f) (fun _ _ _=>(0:Nat)))] [.agg [SI w,SI ht,SI s,SI v0,SI v1,SI d0,SI d1,SI r],.sl 5 n (fun k=>[SI (sk k),SI (sc k),SI (sq k),SI (sa k),SI (sb k)]),SI f] (.tup [.sl 5 (if M.Gd.slE (M.Gd.mk w ht s v0 v1 d0 d1 r) (fun i=>M.Sc.mk (sk i) (sc i) (sq i) (sa i) (sb i)) f n=0 then (M.fmN (M.Gd.slO (M.Gd.mk w ht s v0 v1 d0 d1 r) (fun i=>M.Sc.mk (sk i) (sc i) (sq i) (sa i) (sb i)) f n) n) else 0) (fun k=>[SI (M.fmR (M.Gd.slO (M.Gd.mk w ht s v0 v1 d0 d1 r) (fun i=>M.Sc.mk (sk i) (sc i) (sq i) (sa i) (sb i)) f n) n k).k,SI (M.fmR (M.Gd.slO (M.Gd.mk w ht s v0 v1 d0 d1 r) (fun i=>M.Sc.mk (sk i) (sc i) (sq i) (sa i) (sb i)) f n) n k).c,SI (M.fmR (M.Gd.slO (M.Gd.mk w ht s v0 v1 d0 d1 r) (fun i=>M.Sc.mk (sk i) (sc i) (sq i) (sa i) (sb i)) f n) n k).q,SI (M.fmR (M.Gd.slO (M.Gd.mk w ht s v0 v1 d0 d1 r) (fun i=>M.Sc.mk (sk i) (sc i) (sq i) (sa i) (sb i)) f n) n k).a,SI (M.fmR (M.Gd.slO (M.Gd.mk w ht s v0 v1 d0 d1 r) (fun i=>M.Sc.mk (sk i) (sc i) (sq i) (sa i) (sb i)) f n) n k).b]),SI (M.Gd.slE (M.Gd.mk w ht s v0 v1 d0 d1 r) (fun i=>M.Sc.mk (sk i) (sc i) (sq i) (sa i) (sb i)) f n)])=Rr42 w ht s v0 v1 d0 d1 r n sk sc sq sa sb f:=by kernel_rfl
theorem br42 (w ht s v0 v1 d0 d1 r:Int) (n:Nat) (sk sc sq sa sb:Nat→Int) (f:Int) (hp:(n≤100000)∧AllP []):Rr42 w ht s v0 v1 d0 d1 r n sk sc sq sa sb f:=by
 unfold Rr42
 dsimp -iota -proj -eta -zeta only
 obtain ⟨h1,-⟩:=id hp
 have e:=@M.Gd.csE_ok (M.Gd.mk w ht s v0 v1 d0 d1 r) n (fun i=>M.Sc.mk (sk i) (sc i) (sq i) (sa i) (sb i))
 have hl:=M.fmN_le (o:=(M.Gd.slO (M.Gd.mk w ht s v0 v1 d0 d1 r) (fun i=>M.Sc.mk (sk i) (sc i) (sq i) (sa i) (sb i)) f n)) n
 unfold M.Gd.slE
 by_cases c1:M.Gd.csE (M.Gd.mk w ht s v0 v1 d0 d1 r) n (fun i=>M.Sc.mk (sk i) (sc i) (sq i) (sa i) (sb i))=0
 ·obtain ⟨hk,hn,hs⟩:=e.1 c1
  by_cases c2:0≤f∧f≤100000000
  ·simp [c1,c2,hk,hn,h1,M.fm_zero]
   try exact hs
  ·simp [c1,c2,h1]
 ·simp [c1,h1]
theorem s42:PureOK PP 42 e42:=by
 intro xs ps res h hp
 unfold e42 at h
 split at h
 ·rename_i w ht s v0 v1 d0 d1 r n g_1 f
  cases h
  simp only [AllP.cons] at hp
  obtain ⟨Hg_1,hp⟩:=hp
  exact Spec.args (enterH (Hold.of (r42 w ht s v0 v1 d0 d1 r n (cI g_1 0) (cI g_1 1) (cI g_1 2) (cI g_1 3) (cI g_1 4) f) (br42 w ht s v0 v1 d0 d1 r n (cI g_1 0) (cI g_1 1) (cI g_1 2) (cI g_1 3) (cI g_1 4) f hp)) (.nil) (.cons (pureE_ok s40) (.cons (pureE_ok s67) (.nil))) (k:=42) (by kernel_rfl) (by kernel_rfl) (fun Y=>.cons (by kernel_rfl) (t42 w ht s v0 v1 d0 d1 r n (cI g_1 0) (cI g_1 1) (cI g_1 2) (cI g_1 3) (cI g_1 4) f FOK.wide Y) (.nil))) (.cons (.refl _) (.cons (.row Hg_1 fun _=>rfl) (.cons (.refl _) .nil)))
 ·cases h
end Go.Proofs.Ytoncoofmijjgeaa.Sep
