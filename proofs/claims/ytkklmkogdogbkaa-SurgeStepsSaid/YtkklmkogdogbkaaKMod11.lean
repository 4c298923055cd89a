/-
  More of what the stage 'surge' computes, in plain numbers: fields. No condition. (This text proves no statement by itself.)
-/
import Derived.Test.YtkklmkogdogbkaaKS6
import Derived.Test.YtkklmkogdogbkaaKSep17

namespace Go.Proofs.Ytkklmkogdogbkaa.M
/-- Winds of all cells. -/
structure Fl where
  nl : Nat
  m : Nat → Nat
  v0 : Nat → Nat → Int
  v1 : Nat → Nat → Int
  b : Nat → Nat → Int
  q0 : Nat → Nat → Int
  q1 : Nat → Nat → Int
def Fl.okW (g : Fl) (i k : Nat) : Bool := wind (g.v0 i k) (g.v1 i k) (g.b i k) (g.q0 i k) (g.q1 i k)
def Fl.rowOk (g : Fl) (N : Int) (i : Nat) : Bool := decide ((g.m i : Int) = N) && allB (g.okW i) (g.m i)
def Fl.at (g : Fl) (c : Nat) : Ws := ⟨g.nl, fun i => g.v0 i c, fun i => g.v1 i c, fun i => g.b i c, fun i => g.q0 i c, fun i => g.q1 i c⟩
def P.cell (p : P) (c : Nat) : P := ⟨p.toW, p.dl, p.dh, p.ll, p.lh, c⟩
/-- The level of a cell behind i winds. -/
def P.cLo (p : P) (a : Int) (g : Fl) (c i : Nat) : Int := (p.cell c).rLo a (g.at c) i
def P.cHi (p : P) (b : Int) (g : Fl) (c i : Nat) : Int := (p.cell c).rHi b (g.at c) i
/-- The error of a field. -/
def P.fieldE (p : P) (a b : Int) (g : Fl) : Int :=
  if p.atE = 0 then if within a b (-1099511627776) 1099511627776 then if 500 < g.nl then 9 else if allB (g.rowOk (p.w * p.h)) g.nl then 0 else 3 else 3 else p.atE
theorem P.ok.cell {p : P} (h : p.ok) {c : Nat} (hc : c < p.n) : (p.cell c).ok :=
  ⟨h.g, h.d1, h.d2, h.d3, h.l1, h.l2, h.l3, by show (0 : Int) ≤ (c : Int); omega, by have := h.g.nn; show (c : Int) < p.w * p.h; omega⟩
theorem Fl.rowOk_iff {g : Fl} {N : Int} {i : Nat} : g.rowOk N i = true ↔ (g.m i : Int) = N ∧ ∀ k, k < g.m i → g.okW i k = true := by
  unfold Fl.rowOk
  simp only [Bool.and_eq_true, decide_eq_true_eq, allB_iff]
theorem P.cLo_succ (p : P) (a : Int) (g : Fl) (c i : Nat) : p.cLo a g c (i + 1) = fLo p.ll p.lh (p.cLo a g c i) ((p.cell c).stLo (g.v0 i c) (g.v1 i c) (g.b i c) (g.q0 i c)) := rfl
theorem P.cHi_succ (p : P) (b : Int) (g : Fl) (c i : Nat) : p.cHi b g c (i + 1) = fHi p.ll p.lh (p.cHi b g c i) ((p.cell c).stHi (g.v0 i c) (g.v1 i c) (g.b i c) (g.q1 i c)) := rfl
theorem P.ok.crun {p : P} (h : p.ok) {a b : Int} {g : Fl} (ha : -1099511627776 ≤ a ∧ a ≤ 1099511627776) (hb : -1099511627776 ≤ b ∧ b ≤ 1099511627776) (ho : ∀ i, i < g.nl → g.rowOk (p.w * p.h) i = true) {c i : Nat} (hc : c < p.n) (hi : i ≤ g.nl) :
    (-1099511627776 ≤ p.cLo a g c i ∧ p.cLo a g c i ≤ 1099511627776) ∧ -1099511627776 ≤ p.cHi b g c i ∧ p.cHi b g c i ≤ 1099511627776 :=
  (h.cell hc).run ha hb (g := g.at c) (k := i) fun j hj => by
    obtain ⟨h1, h2⟩ := Fl.rowOk_iff.1 (ho j (by omega))
    have := h.g.nn
    exact h2 c (by omega)
theorem P.ok.cwind {p : P} (h : p.ok) {g : Fl} (ho : ∀ i, i < g.nl → g.rowOk (p.w * p.h) i = true) {c i : Nat} (hc : c < p.n) (hi : i < g.nl) :
    c < g.m i ∧ WindOk (g.v0 i c) (g.v1 i c) (g.b i c) (g.q0 i c) (g.q1 i c) := by
  obtain ⟨h1, h2⟩ := Fl.rowOk_iff.1 (ho i hi)
  have := h.g.nn
  exact ⟨by omega, wind_iff.1 (h2 c (by omega))⟩
end Go.Proofs.Ytkklmkogdogbkaa.M
/-
  The contract of the program's Field of the stage 'surge'. No condition. (This text proves no statement by itself.)
-/
namespace Go.Proofs.Ytkklmkogdogbkaa.Sep
open Go
set_option linter.unusedVariables false
set_option linter.unusedSimpArgs false
--#def L11(c) x
def lp48b (w h s : Int) (n : Nat) (x y : Nat → Int) (lo hi dl dh ll lh : Int) (a b : Int) (nl : Nat) (m : Nat → Nat) (V0 V1 B Q0 Q1 : Nat → Nat → Int) (i : Nat) : LoopS where
  ι := Nat
  β := Unit
  pre k := (k ≤ m i ∧ R64 (m i) ∧ i < nl) ∧ ∀ j, j < k → M.Fl.okW (M.Fl.mk nl m V0 V1 B Q0 Q1) i j = true
  μ k := m i - k
  next k _ _ _ := k + 1
  out _ := ()
  early _ := !M.allB (M.Fl.okW (M.Fl.mk nl m V0 V1 B Q0 Q1) i) (m i)
  SA k := [(4, .sl 1 nl (fun i => [.sl 5 (m i) (fun k => [SI (V0 i k), SI (V1 i k), SI (B i k), SI (Q0 i k), SI (Q1 i k)])])), (7, .ptr 0 0), (8, .ptr 1 0), (12, .ptr 2 0), (43, .sl 1 nl (fun i => [.sl 5 (m i) (fun k => [SI (V0 i k), SI (V1 i k), SI (B i k), SI (Q0 i k), SI (Q1 i k)])])), (44, SI nl), (45, SI i), (55, .sl 5 (m i) (fun k => [SI (V0 i k), SI (V1 i k), SI (B i k), SI (Q0 i k), SI (Q1 i k)])), (56, SI (m i)), (57, SI k)]
  SH _ := [(0, .cells [SI dl, SI dh, SI ll, SI lh]), (1, .cells [SI a, SI b]), (2, .cells [SI w, SI h, SI s, .sl 2 n (fun k => [SI (x k), SI (y k)]), SI lo, SI hi, SI dl, SI dh, SI ll, SI lh, SI 0])]
  n0 := 3
  NA _ := [(4, .sl 1 nl (fun i => [.sl 5 (m i) (fun k => [SI (V0 i k), SI (V1 i k), SI (B i k), SI (Q0 i k), SI (Q1 i k)])])), (7, .ptr 0 0), (8, .ptr 1 0), (12, .ptr 2 0), (43, .sl 1 nl (fun i => [.sl 5 (m i) (fun k => [SI (V0 i k), SI (V1 i k), SI (B i k), SI (Q0 i k), SI (Q1 i k)])])), (44, SI nl), (45, SI i)]
  NH _ := [(0, .cells [SI dl, SI dh, SI ll, SI lh]), (1, .cells [SI a, SI b]), (2, .cells [SI w, SI h, SI s, .sl 2 n (fun k => [SI (x k), SI (y k)]), SI lo, SI hi, SI dl, SI dh, SI ll, SI lh, SI 0])]
  n1 := 3
  RA _ := [(10, .lit (.slice none 0 0)), (11, SI 3)]
  RH _ := []
def Rq48b (w h s : Int) (n : Nat) (x y : Nat → Int) (lo hi dl dh ll lh : Int) (a b : Int) (nl : Nat) (m : Nat → Nat) (V0 V1 B Q0 Q1 : Nat → Nat → Int) (i : Nat) (k : Nat) : Prop := (decide ((↑k : Int) < (↑(m i) : Int)) = true → (0 : Int) ≤ (↑k : Int) ∧ (↑k : Int) < (↑(m i) : Int) ∧ Int.toNat (↑k : Int) < m i ∧ ((!decide ((if M.wind (V0 i (Int.toNat (↑k : Int))) (V1 i (Int.toNat (↑k : Int))) (B i (Int.toNat (↑k : Int))) (Q0 i (Int.toNat (↑k : Int))) (Q1 i (Int.toNat (↑k : Int))) = true then (0 : Int) else (3 : Int)) = (0 : Int))) = true → (!M.allB (M.Fl.okW (M.Fl.mk nl m V0 V1 B Q0 Q1) i) (m i)) = true ∧ Value.slice none (0 : Nat) (0 : Nat) = Value.slice none (0 : Nat) (0 : Nat) ∧ (if M.wind (V0 i (Int.toNat (↑k : Int))) (V1 i (Int.toNat (↑k : Int))) (B i (Int.toNat (↑k : Int))) (Q0 i (Int.toNat (↑k : Int))) (Q1 i (Int.toNat (↑k : Int))) = true then (0 : Int) else (3 : Int)) = (3 : Int) ∧ True) ∧ ((!decide ((if M.wind (V0 i (Int.toNat (↑k : Int))) (V1 i (Int.toNat (↑k : Int))) (B i (Int.toNat (↑k : Int))) (Q0 i (Int.toNat (↑k : Int))) (Q1 i (Int.toNat (↑k : Int))) = true then (0 : Int) else (3 : Int)) = (0 : Int))) = false → R64 ((↑k : Int) + (1 : Int)) ∧ ((k + (1 : Nat) ≤ m i ∧ R64 (↑(m i) : Int) ∧ i < nl) ∧ ∀ (j : Nat), j < k + (1 : Nat) → M.Fl.okW (M.Fl.mk nl m V0 V1 B Q0 Q1) i j = true) ∧ m i - (k + (1 : Nat)) < m i - k ∧ () = () ∧ (nl = nl ∧ ∀ (k : Nat), k < nl → m k = m k ∧ ∀ (k_1 : Nat), k_1 < m k → V0 k k_1 = V0 k k_1 ∧ V1 k k_1 = V1 k k_1 ∧ B k k_1 = B k k_1 ∧ Q0 k k_1 = Q0 k k_1 ∧ Q1 k k_1 = Q1 k k_1) ∧ (nl = nl ∧ ∀ (k : Nat), k < nl → m k = m k ∧ ∀ (k_1 : Nat), k_1 < m k → V0 k k_1 = V0 k k_1 ∧ V1 k k_1 = V1 k k_1 ∧ B k k_1 = B k k_1 ∧ Q0 k k_1 = Q0 k k_1 ∧ Q1 k k_1 = Q1 k k_1) ∧ (↑nl : Int) = (↑nl : Int) ∧ (↑i : Int) = (↑i : Int) ∧ (m i = m i ∧ ∀ (k : Nat), k < m i → V0 i k = V0 i k ∧ V1 i k = V1 i k ∧ B i k = B i k ∧ Q0 i k = Q0 i k ∧ Q1 i k = Q1 i k) ∧ (↑(m i) : Int) = (↑(m i) : Int) ∧ (↑k : Int) + (1 : Int) = (↑(k + (1 : Nat)) : Int) ∧ dl = dl ∧ dh = dh ∧ ll = ll ∧ lh = lh ∧ a = a ∧ b = b ∧ w = w ∧ h = h ∧ s = s ∧ (n = n ∧ ∀ (k : Nat), k < n → x k = x k ∧ y k = y k) ∧ lo = lo ∧ hi = hi ∧ dl = dl ∧ dh = dh ∧ ll = ll ∧ lh = lh ∧ (0 : Int) = (0 : Int) ∧ True)) ∧ (decide ((↑k : Int) < (↑(m i) : Int)) = false → (!M.allB (M.Fl.okW (M.Fl.mk nl m V0 V1 B Q0 Q1) i) (m i)) = false ∧ (nl = nl ∧ ∀ (k : Nat), k < nl → m k = m k ∧ ∀ (k_1 : Nat), k_1 < m k → V0 k k_1 = V0 k k_1 ∧ V1 k k_1 = V1 k k_1 ∧ B k k_1 = B k k_1 ∧ Q0 k k_1 = Q0 k k_1 ∧ Q1 k k_1 = Q1 k k_1) ∧ (nl = nl ∧ ∀ (k : Nat), k < nl → m k = m k ∧ ∀ (k_1 : Nat), k_1 < m k → V0 k k_1 = V0 k k_1 ∧ V1 k k_1 = V1 k k_1 ∧ B k k_1 = B k k_1 ∧ Q0 k k_1 = Q0 k k_1 ∧ Q1 k k_1 = Q1 k k_1) ∧ (↑nl : Int) = (↑nl : Int) ∧ (↑i : Int) = (↑i : Int) ∧ dl = dl ∧ dh = dh ∧ ll = ll ∧ lh = lh ∧ a = a ∧ b = b ∧ w = w ∧ h = h ∧ s = s ∧ (n = n ∧ ∀ (k : Nat), k < n → x k = x k ∧ y k = y k) ∧ lo = lo ∧ hi = hi ∧ dl = dl ∧ dh = dh ∧ ll = ll ∧ lh = lh ∧ (0 : Int) = (0 : Int) ∧ True)
theorem q48b (w h s : Int) (n : Nat) (x y : Nat → Int) (lo hi dl dh ll lh : Int) (a b : Int) (nl : Nat) (m : Nat → Nat) (V0 V1 B Q0 Q1 : Nat → Nat → Int) (i : Nat) (k : Nat) : VL true [] [(18, pureE e18)] YS.none Try.f48 0 [0,1,2,3,4,5,6,7,8,10,11,12,13,15,17,18,19,20,22,30,34,39,43,44,45,46,54,55,56,57,58,64,70,71,72,77,78,79,80] [] 3 (lp48b w h s n x y lo hi dl dh ll lh a b nl m V0 V1 B Q0 Q1 i) (k) = Rq48b w h s n x y lo hi dl dh ll lh a b nl m V0 V1 B Q0 Q1 i k := by kernel_rfl
theorem peq48b (w h s : Int) (n : Nat) (x y : Nat → Int) (lo hi dl dh ll lh : Int) (a b : Int) (nl : Nat) (m : Nat → Nat) (V0 V1 B Q0 Q1 : Nat → Nat → Int) (i : Nat) (k : Nat) : (lp48b w h s n x y lo hi dl dh ll lh a b nl m V0 V1 B Q0 Q1 i).pre (k) = ((k ≤ m i ∧ R64 (↑(m i) : Int) ∧ i < nl) ∧ ∀ (j : Nat), j < k → M.Fl.okW (M.Fl.mk nl m V0 V1 B Q0 Q1) i j = true) := by kernel_rfl
theorem bq48b (w h s : Int) (n : Nat) (x y : Nat → Int) (lo hi dl dh ll lh : Int) (a b : Int) (nl : Nat) (m : Nat → Nat) (V0 V1 B Q0 Q1 : Nat → Nat → Int) (i : Nat) (k : Nat) (hp : (k ≤ m i ∧ R64 (↑(m i) : Int) ∧ i < nl) ∧ ∀ (j : Nat), j < k → M.Fl.okW (M.Fl.mk nl m V0 V1 B Q0 Q1) i j = true) : Rq48b w h s n x y lo hi dl dh ll lh a b nl m V0 V1 B Q0 Q1 i k := by
  unfold Rq48b
  obtain ⟨⟨hk, hm, hi'⟩, ho⟩ := hp
  have e0 : M.Fl.okW (M.Fl.mk nl m V0 V1 B Q0 Q1) i k = M.wind (V0 i k) (V1 i k) (B i k) (Q0 i k) (Q1 i k) := rfl
  have hnx := @M.scan_next (M.Fl.okW (M.Fl.mk nl m V0 V1 B Q0 Q1) i) k ho
  have hf := @M.scan_fail (M.Fl.okW (M.Fl.mk nl m V0 V1 B Q0 Q1) i) (m i) k
  simp only [Int.toNat_natCast, ← e0]
  clear e0
  unfold R64 at *
  by_cases hlt : k < m i
  · have hf := hf hlt
    cases hb : M.Fl.okW (M.Fl.mk nl m V0 V1 B Q0 Q1) i k
    · simp [hlt, hf hb]
    · have hnx := hnx hb
      simp [hlt, hi']
      repeat' apply And.intro
      all_goals first | omega | exact hnx
  · have e : k = m i := by omega
    have := @M.scan_all (M.Fl.okW (M.Fl.mk nl m V0 V1 B Q0 Q1) i) (m i) (fun j hj => ho j (by omega))
    simp [e, this]
theorem t48b (w h s : Int) (n : Nat) (x y : Nat → Int) (lo hi dl dh ll lh : Int) (a b : Int) (nl : Nat) (m : Nat → Nat) (V0 V1 B Q0 Q1 : Nat → Nat → Int) (i : Nat) {F : Fence} (hF : FOK F) (Y : YEnv PP YS.none) : ∀ Q A H nx, loopT false Try.f48.ntmps 0 (lp48b w h s n x y lo hi dl dh ll lh a b nl m V0 V1 B Q0 Q1 i) (fun _ _ _ => (0 : Nat)) Q A H nx → WPS Y F Try.f48.ntmps 0 (.block 3 (blkAt 3 Try.f48)) Q A H nx :=
  loopW (E := []) (.nil) (O := [(18, pureE e18)]) (.cons (pureE_ok s18) (.nil)) (ck := true) (L := [0,1,2,3,4,5,6,7,8,10,11,12,13,15,17,18,19,20,22,30,34,39,43,44,45,46,54,55,56,57,58,64,70,71,72,77,78,79,80]) (f := Try.f48) (m := 0) (id := 3) (l := (lp48b w h s n x y lo hi dl dh ll lh a b nl m V0 V1 B Q0 Q1 i)) (LI := fun i => []) Y hF (by kernel_rfl) (fun _ => .nil) (by
    rintro k hp
    exact Hold.of (q48b w h s n x y lo hi dl dh ll lh a b nl m V0 V1 B Q0 Q1 i k) (bq48b w h s n x y lo hi dl dh ll lh a b nl m V0 V1 B Q0 Q1 i k ((peq48b w h s n x y lo hi dl dh ll lh a b nl m V0 V1 B Q0 Q1 i k).mp hp)))
def lp48a (w h s : Int) (n : Nat) (x y : Nat → Int) (lo hi dl dh ll lh : Int) (a b : Int) (nl : Nat) (m : Nat → Nat) (V0 V1 B Q0 Q1 : Nat → Nat → Int) : LoopS where
  ι := Nat
  β := Unit
  pre i := (i ≤ nl ∧ R64 nl ∧ R64 (w * h) ∧ (∀ i, i < nl → R64 (m i))) ∧ ∀ j, j < i → M.Fl.rowOk (M.Fl.mk nl m V0 V1 B Q0 Q1) (w * h) j = true
  μ i := nl - i
  next i _ _ _ := i + 1
  out _ := ()
  early _ := !M.allB (M.Fl.rowOk (M.Fl.mk nl m V0 V1 B Q0 Q1) (w * h)) nl
  SA i := [(4, .sl 1 nl (fun i => [.sl 5 (m i) (fun k => [SI (V0 i k), SI (V1 i k), SI (B i k), SI (Q0 i k), SI (Q1 i k)])])), (7, .ptr 0 0), (8, .ptr 1 0), (12, .ptr 2 0), (43, .sl 1 nl (fun i => [.sl 5 (m i) (fun k => [SI (V0 i k), SI (V1 i k), SI (B i k), SI (Q0 i k), SI (Q1 i k)])])), (44, SI nl), (45, SI i)]
  SH _ := [(0, .cells [SI dl, SI dh, SI ll, SI lh]), (1, .cells [SI a, SI b]), (2, .cells [SI w, SI h, SI s, .sl 2 n (fun k => [SI (x k), SI (y k)]), SI lo, SI hi, SI dl, SI dh, SI ll, SI lh, SI 0])]
  n0 := 3
  NA _ := [(4, .sl 1 nl (fun i => [.sl 5 (m i) (fun k => [SI (V0 i k), SI (V1 i k), SI (B i k), SI (Q0 i k), SI (Q1 i k)])])), (7, .ptr 0 0), (8, .ptr 1 0), (12, .ptr 2 0)]
  NH _ := [(0, .cells [SI dl, SI dh, SI ll, SI lh]), (1, .cells [SI a, SI b]), (2, .cells [SI w, SI h, SI s, .sl 2 n (fun k => [SI (x k), SI (y k)]), SI lo, SI hi, SI dl, SI dh, SI ll, SI lh, SI 0])]
  n1 := 3
  RA _ := [(10, .lit (.slice none 0 0)), (11, SI 3)]
  RH _ := []
def Rq48a (w h s : Int) (n : Nat) (x y : Nat → Int) (lo hi dl dh ll lh : Int) (a b : Int) (nl : Nat) (m : Nat → Nat) (V0 V1 B Q0 Q1 : Nat → Nat → Int) (i : Nat) : Prop := (decide ((↑i : Int) < (↑nl : Int)) = true → (0 : Int) ≤ (↑i : Int) ∧ (↑i : Int) < (↑nl : Int) ∧ Int.toNat (↑i : Int) < nl ∧ (∀ (k : Nat), k < n → x k = x k ∧ y k = y k) ∧ R64 (w * h) ∧ ((!decide ((↑(m (Int.toNat (↑i : Int))) : Int) = w * h)) = true → (!M.allB (M.Fl.rowOk (M.Fl.mk nl m V0 V1 B Q0 Q1) (w * h)) nl) = true ∧ Value.slice none (0 : Nat) (0 : Nat) = Value.slice none (0 : Nat) (0 : Nat) ∧ (3 : Int) = (3 : Int) ∧ True) ∧ ((!decide ((↑(m (Int.toNat (↑i : Int))) : Int) = w * h)) = false → (((0 : Nat) ≤ m i ∧ R64 (↑(m i) : Int) ∧ i < nl) ∧ ∀ (j : Nat), j < (0 : Nat) → M.Fl.okW (M.Fl.mk nl m V0 V1 B Q0 Q1) i j = true) ∧ ((nl = nl ∧ ∀ (k : Nat), k < nl → m k = m k ∧ ∀ (k_1 : Nat), k_1 < m k → V0 k k_1 = V0 k k_1 ∧ V1 k k_1 = V1 k k_1 ∧ B k k_1 = B k k_1 ∧ Q0 k k_1 = Q0 k k_1 ∧ Q1 k k_1 = Q1 k k_1) ∧ (nl = nl ∧ ∀ (k : Nat), k < nl → m k = m k ∧ ∀ (k_1 : Nat), k_1 < m k → V0 k k_1 = V0 k k_1 ∧ V1 k k_1 = V1 k k_1 ∧ B k k_1 = B k k_1 ∧ Q0 k k_1 = Q0 k k_1 ∧ Q1 k k_1 = Q1 k k_1) ∧ (↑nl : Int) = (↑nl : Int) ∧ (↑i : Int) = (↑i : Int) ∧ (m (Int.toNat (↑i : Int)) = m i ∧ ∀ (k : Nat), k < m (Int.toNat (↑i : Int)) → V0 (Int.toNat (↑i : Int)) k = V0 i k ∧ V1 (Int.toNat (↑i : Int)) k = V1 i k ∧ B (Int.toNat (↑i : Int)) k = B i k ∧ Q0 (Int.toNat (↑i : Int)) k = Q0 i k ∧ Q1 (Int.toNat (↑i : Int)) k = Q1 i k) ∧ (↑(m (Int.toNat (↑i : Int))) : Int) = (↑(m i) : Int) ∧ (0 : Int) = (↑(0 : Nat) : Int) ∧ dl = dl ∧ dh = dh ∧ ll = ll ∧ lh = lh ∧ a = a ∧ b = b ∧ w = w ∧ h = h ∧ s = s ∧ (n = n ∧ ∀ (k : Nat), k < n → x k = x k ∧ y k = y k) ∧ lo = lo ∧ hi = hi ∧ dl = dl ∧ dh = dh ∧ ll = ll ∧ lh = lh ∧ (0 : Int) = (0 : Int) ∧ True) ∧ ((!M.allB (M.Fl.okW (M.Fl.mk nl m V0 V1 B Q0 Q1) i) (m i)) = false → R64 ((↑i : Int) + (1 : Int)) ∧ ((i + (1 : Nat) ≤ nl ∧ R64 (↑nl : Int) ∧ R64 (w * h) ∧ ∀ (i : Nat), i < nl → R64 (↑(m i) : Int)) ∧ ∀ (j : Nat), j < i + (1 : Nat) → M.Fl.rowOk (M.Fl.mk nl m V0 V1 B Q0 Q1) (w * h) j = true) ∧ nl - (i + (1 : Nat)) < nl - i ∧ () = () ∧ (nl = nl ∧ ∀ (k : Nat), k < nl → m k = m k ∧ ∀ (k_1 : Nat), k_1 < m k → V0 k k_1 = V0 k k_1 ∧ V1 k k_1 = V1 k k_1 ∧ B k k_1 = B k k_1 ∧ Q0 k k_1 = Q0 k k_1 ∧ Q1 k k_1 = Q1 k k_1) ∧ (nl = nl ∧ ∀ (k : Nat), k < nl → m k = m k ∧ ∀ (k_1 : Nat), k_1 < m k → V0 k k_1 = V0 k k_1 ∧ V1 k k_1 = V1 k k_1 ∧ B k k_1 = B k k_1 ∧ Q0 k k_1 = Q0 k k_1 ∧ Q1 k k_1 = Q1 k k_1) ∧ (↑nl : Int) = (↑nl : Int) ∧ (↑i : Int) + (1 : Int) = (↑(i + (1 : Nat)) : Int) ∧ dl = dl ∧ dh = dh ∧ ll = ll ∧ lh = lh ∧ a = a ∧ b = b ∧ w = w ∧ h = h ∧ s = s ∧ (n = n ∧ ∀ (k : Nat), k < n → x k = x k ∧ y k = y k) ∧ lo = lo ∧ hi = hi ∧ dl = dl ∧ dh = dh ∧ ll = ll ∧ lh = lh ∧ (0 : Int) = (0 : Int) ∧ True) ∧ ((!M.allB (M.Fl.okW (M.Fl.mk nl m V0 V1 B Q0 Q1) i) (m i)) = true → (!M.allB (M.Fl.rowOk (M.Fl.mk nl m V0 V1 B Q0 Q1) (w * h)) nl) = true ∧ Value.slice none (0 : Nat) (0 : Nat) = Value.slice none (0 : Nat) (0 : Nat) ∧ (3 : Int) = (3 : Int) ∧ True))) ∧ (decide ((↑i : Int) < (↑nl : Int)) = false → (!M.allB (M.Fl.rowOk (M.Fl.mk nl m V0 V1 B Q0 Q1) (w * h)) nl) = false ∧ (nl = nl ∧ ∀ (k : Nat), k < nl → m k = m k ∧ ∀ (k_1 : Nat), k_1 < m k → V0 k k_1 = V0 k k_1 ∧ V1 k k_1 = V1 k k_1 ∧ B k k_1 = B k k_1 ∧ Q0 k k_1 = Q0 k k_1 ∧ Q1 k k_1 = Q1 k k_1) ∧ dl = dl ∧ dh = dh ∧ ll = ll ∧ lh = lh ∧ a = a ∧ b = b ∧ w = w ∧ h = h ∧ s = s ∧ (n = n ∧ ∀ (k : Nat), k < n → x k = x k ∧ y k = y k) ∧ lo = lo ∧ hi = hi ∧ dl = dl ∧ dh = dh ∧ ll = ll ∧ lh = lh ∧ (0 : Int) = (0 : Int) ∧ True)
theorem q48a (w h s : Int) (n : Nat) (x y : Nat → Int) (lo hi dl dh ll lh : Int) (a b : Int) (nl : Nat) (m : Nat → Nat) (V0 V1 B Q0 Q1 : Nat → Nat → Int) (i : Nat) : VL true [] [(92, pureE e92)] YS.none Try.f48 0 [0,1,2,3,4,5,6,7,8,10,11,12,13,15,17,18,19,20,22,30,34,39,43,44,45,46,54,55,56,57,58,64,70,71,72,77,78,79,80] [(3, loopT false Try.f48.ntmps 0 (lp48b w h s n x y lo hi dl dh ll lh a b nl m V0 V1 B Q0 Q1 i) (fun _ _ _ => (0 : Nat)))] 1 (lp48a w h s n x y lo hi dl dh ll lh a b nl m V0 V1 B Q0 Q1) (i) = Rq48a w h s n x y lo hi dl dh ll lh a b nl m V0 V1 B Q0 Q1 i := by kernel_rfl
theorem peq48a (w h s : Int) (n : Nat) (x y : Nat → Int) (lo hi dl dh ll lh : Int) (a b : Int) (nl : Nat) (m : Nat → Nat) (V0 V1 B Q0 Q1 : Nat → Nat → Int) (i : Nat) : (lp48a w h s n x y lo hi dl dh ll lh a b nl m V0 V1 B Q0 Q1).pre (i) = ((i ≤ nl ∧ R64 (↑nl : Int) ∧ R64 (w * h) ∧ ∀ (i : Nat), i < nl → R64 (↑(m i) : Int)) ∧
  ∀ (j : Nat), j < i → M.Fl.rowOk (M.Fl.mk nl m V0 V1 B Q0 Q1) (w * h) j = true) := by kernel_rfl
theorem bq48a (w h s : Int) (n : Nat) (x y : Nat → Int) (lo hi dl dh ll lh : Int) (a b : Int) (nl : Nat) (m : Nat → Nat) (V0 V1 B Q0 Q1 : Nat → Nat → Int) (i : Nat) (hp : (i ≤ nl ∧ R64 (↑nl : Int) ∧ R64 (w * h) ∧ ∀ (i : Nat), i < nl → R64 (↑(m i) : Int)) ∧
  ∀ (j : Nat), j < i → M.Fl.rowOk (M.Fl.mk nl m V0 V1 B Q0 Q1) (w * h) j = true) : Rq48a w h s n x y lo hi dl dh ll lh a b nl m V0 V1 B Q0 Q1 i := by
  unfold Rq48a
  obtain ⟨⟨hi', hnl, hwh, hR⟩, ho⟩ := hp
  have e0 : M.Fl.rowOk (M.Fl.mk nl m V0 V1 B Q0 Q1) (w * h) i = (decide ((m i : Int) = w * h) && M.allB (M.Fl.okW (M.Fl.mk nl m V0 V1 B Q0 Q1) i) (m i)) := rfl
  have hnx := @M.scan_next (M.Fl.rowOk (M.Fl.mk nl m V0 V1 B Q0 Q1) (w * h)) i ho
  have hf := @M.scan_fail (M.Fl.rowOk (M.Fl.mk nl m V0 V1 B Q0 Q1) (w * h)) nl i
  simp only [Int.toNat_natCast]
  by_cases hlt : i < nl
  · have hf := hf hlt
    have hRi := hR i hlt
    rw [e0] at hf hnx
    clear e0
    have r1 : R64 ((i : Int) + 1) := by unfold R64 at *; omega
    generalize M.allB (M.Fl.okW (M.Fl.mk nl m V0 V1 B Q0 Q1) i) (m i) = q at *
    by_cases c1 : (m i : Int) = w * h
    · cases q
      · simp [c1] at hf
        rw [c1] at hRi
        simp [hlt, c1, hf, hwh]
      · simp [c1] at hnx
        rw [c1] at hRi
        simp [hlt, c1, hwh, hnl, r1]
        repeat' apply And.intro
        all_goals first | omega | exact hnx | exact hR | exact fun j hj => hnx j hj
    · simp [c1] at hf
      simp [hlt, c1, hf, hwh]
  · have e : i = nl := by omega
    subst e
    simp [M.scan_all ho]
theorem t48a (w h s : Int) (n : Nat) (x y : Nat → Int) (lo hi dl dh ll lh : Int) (a b : Int) (nl : Nat) (m : Nat → Nat) (V0 V1 B Q0 Q1 : Nat → Nat → Int) {F : Fence} (hF : FOK F) (Y : YEnv PP YS.none) : ∀ Q A H nx, loopT false Try.f48.ntmps 0 (lp48a w h s n x y lo hi dl dh ll lh a b nl m V0 V1 B Q0 Q1) (fun _ _ _ => (0 : Nat)) Q A H nx → WPS Y F Try.f48.ntmps 0 (.block 1 (blkAt 1 Try.f48)) Q A H nx :=
  loopW (E := []) (.nil) (O := [(92, pureE e92)]) (.cons (pureE_ok s92) (.nil)) (ck := true) (L := [0,1,2,3,4,5,6,7,8,10,11,12,13,15,17,18,19,20,22,30,34,39,43,44,45,46,54,55,56,57,58,64,70,71,72,77,78,79,80]) (f := Try.f48) (m := 0) (id := 1) (l := (lp48a w h s n x y lo hi dl dh ll lh a b nl m V0 V1 B Q0 Q1)) (LI := fun i => [(3, loopT false Try.f48.ntmps 0 (lp48b w h s n x y lo hi dl dh ll lh a b nl m V0 V1 B Q0 Q1 i) (fun _ _ _ => (0 : Nat)))]) Y hF (by kernel_rfl) (fun i => .cons (by kernel_rfl) (t48b w h s n x y lo hi dl dh ll lh a b nl m V0 V1 B Q0 Q1 i hF Y) (.nil)) (by
    rintro i hp
    exact Hold.of (q48a w h s n x y lo hi dl dh ll lh a b nl m V0 V1 B Q0 Q1 i) (bq48a w h s n x y lo hi dl dh ll lh a b nl m V0 V1 B Q0 Q1 i ((peq48a w h s n x y lo hi dl dh ll lh a b nl m V0 V1 B Q0 Q1 i).mp hp)))
def lp48d (w h s : Int) (n : Nat) (x y : Nat → Int) (lo hi dl dh ll lh : Int) (a b : Int) (nl : Nat) (m : Nat → Nat) (V0 V1 B Q0 Q1 : Nat → Nat → Int) (c : Nat) : LoopS where
  ι := Nat
  β := Unit
  pre i := (i ≤ nl ∧ c < n) ∧ M.P.ok (M.P.mk (M.W.mk w h s n x y lo hi) dl dh ll lh 0) ∧ (-1099511627776 ≤ a ∧ a ≤ 1099511627776) ∧ (-1099511627776 ≤ b ∧ b ≤ 1099511627776) ∧ (nl ≤ 500 ∧ ∀ j, j < nl → M.Fl.rowOk (M.Fl.mk nl m V0 V1 B Q0 Q1) (w * h) j = true)
  μ i := nl - i
  next i _ _ _ := i + 1
  out _ := ()
  early _ := false
  SA i := [(4, .sl 1 nl (fun i => [.sl 5 (m i) (fun k => [SI (V0 i k), SI (V1 i k), SI (B i k), SI (Q0 i k), SI (Q1 i k)])])), (7, .ptr 0 0), (8, .ptr 1 0), (12, .ptr 2 0), (19, .vec 3 2 0 c), (20, .ptr 4 0), (70, SI (w * h)), (71, SI c), (77, .sl 1 nl (fun i => [.sl 5 (m i) (fun k => [SI (V0 i k), SI (V1 i k), SI (B i k), SI (Q0 i k), SI (Q1 i k)])])), (78, SI nl), (79, SI i)]
  SH i := [(0, .cells [SI dl, SI dh, SI ll, SI lh]), (1, .cells [SI a, SI b]), (2, .cells [SI w, SI h, SI s, .sl 2 n (fun k => [SI (x k), SI (y k)]), SI lo, SI hi, SI dl, SI dh, SI ll, SI lh, SI c]), (3, .row 2 c (fun k => [SI (M.P.cLo (M.P.mk (M.W.mk w h s n x y lo hi) dl dh ll lh 0) a (M.Fl.mk nl m V0 V1 B Q0 Q1) k nl), SI (M.P.cHi (M.P.mk (M.W.mk w h s n x y lo hi) dl dh ll lh 0) b (M.Fl.mk nl m V0 V1 B Q0 Q1) k nl)])), (4, .cells [SI (M.P.cLo (M.P.mk (M.W.mk w h s n x y lo hi) dl dh ll lh 0) a (M.Fl.mk nl m V0 V1 B Q0 Q1) c i), SI (M.P.cHi (M.P.mk (M.W.mk w h s n x y lo hi) dl dh ll lh 0) b (M.Fl.mk nl m V0 V1 B Q0 Q1) c i)])]
  n0 := 5
  NA _ := [(4, .sl 1 nl (fun i => [.sl 5 (m i) (fun k => [SI (V0 i k), SI (V1 i k), SI (B i k), SI (Q0 i k), SI (Q1 i k)])])), (7, .ptr 0 0), (8, .ptr 1 0), (12, .ptr 2 0), (19, .vec 3 2 0 c), (20, .ptr 4 0), (70, SI (w * h)), (71, SI c)]
  NH _ := [(0, .cells [SI dl, SI dh, SI ll, SI lh]), (1, .cells [SI a, SI b]), (2, .cells [SI w, SI h, SI s, .sl 2 n (fun k => [SI (x k), SI (y k)]), SI lo, SI hi, SI dl, SI dh, SI ll, SI lh, SI c]), (3, .row 2 c (fun k => [SI (M.P.cLo (M.P.mk (M.W.mk w h s n x y lo hi) dl dh ll lh 0) a (M.Fl.mk nl m V0 V1 B Q0 Q1) k nl), SI (M.P.cHi (M.P.mk (M.W.mk w h s n x y lo hi) dl dh ll lh 0) b (M.Fl.mk nl m V0 V1 B Q0 Q1) k nl)])), (4, .cells [SI (M.P.cLo (M.P.mk (M.W.mk w h s n x y lo hi) dl dh ll lh 0) a (M.Fl.mk nl m V0 V1 B Q0 Q1) c nl), SI (M.P.cHi (M.P.mk (M.W.mk w h s n x y lo hi) dl dh ll lh 0) b (M.Fl.mk nl m V0 V1 B Q0 Q1) c nl)])]
  n1 := 5
  RA _ := []
  RH _ := []
def Rq48d (w h s : Int) (n : Nat) (x y : Nat → Int) (lo hi dl dh ll lh : Int) (a b : Int) (nl : Nat) (m : Nat → Nat) (V0 V1 B Q0 Q1 : Nat → Nat → Int) (c : Nat) (i : Nat) : Prop := (decide ((↑i : Int) < (↑nl : Int)) = true → (0 : Int) ≤ (↑i : Int) ∧ (↑i : Int) < (↑nl : Int) ∧ Int.toNat (↑i : Int) < nl ∧ (0 : Int) ≤ (↑c : Int) ∧ (↑c : Int) < (↑(m (Int.toNat (↑i : Int))) : Int) ∧ Int.toNat (↑c : Int) < m (Int.toNat (↑i : Int)) ∧ (∀ (k : Nat), k < n → x k = x k ∧ y k = y k) ∧ M.P.ok (M.P.mk (M.W.mk w h s n x y lo hi) dl dh ll lh (↑c : Int)) ∧ M.WindOk (V0 (Int.toNat (↑i : Int)) (Int.toNat (↑c : Int))) (V1 (Int.toNat (↑i : Int)) (Int.toNat (↑c : Int))) (B (Int.toNat (↑i : Int)) (Int.toNat (↑c : Int))) (Q0 (Int.toNat (↑i : Int)) (Int.toNat (↑c : Int))) (Q1 (Int.toNat (↑i : Int)) (Int.toNat (↑c : Int))) ∧ (1 : Int) ≤ ll ∧ ll ≤ lh ∧ lh ≤ (1024 : Int) ∧ (-1099511627776 : Int) ≤ M.P.cLo (M.P.mk (M.W.mk w h s n x y lo hi) dl dh ll lh (0 : Int)) a (M.Fl.mk nl m V0 V1 B Q0 Q1) c i ∧ M.P.cLo (M.P.mk (M.W.mk w h s n x y lo hi) dl dh ll lh (0 : Int)) a (M.Fl.mk nl m V0 V1 B Q0 Q1) c i ≤ (1099511627776 : Int) ∧ (-1099511627776 : Int) ≤ M.P.cHi (M.P.mk (M.W.mk w h s n x y lo hi) dl dh ll lh (0 : Int)) b (M.Fl.mk nl m V0 V1 B Q0 Q1) c i ∧ M.P.cHi (M.P.mk (M.W.mk w h s n x y lo hi) dl dh ll lh (0 : Int)) b (M.Fl.mk nl m V0 V1 B Q0 Q1) c i ≤ (1099511627776 : Int) ∧ (-1099511627776 : Int) ≤ M.P.stLo (M.P.mk (M.W.mk w h s n x y lo hi) dl dh ll lh (↑c : Int)) (V0 (Int.toNat (↑i : Int)) (Int.toNat (↑c : Int))) (V1 (Int.toNat (↑i : Int)) (Int.toNat (↑c : Int))) (B (Int.toNat (↑i : Int)) (Int.toNat (↑c : Int))) (Q0 (Int.toNat (↑i : Int)) (Int.toNat (↑c : Int))) ∧ M.P.stLo (M.P.mk (M.W.mk w h s n x y lo hi) dl dh ll lh (↑c : Int)) (V0 (Int.toNat (↑i : Int)) (Int.toNat (↑c : Int))) (V1 (Int.toNat (↑i : Int)) (Int.toNat (↑c : Int))) (B (Int.toNat (↑i : Int)) (Int.toNat (↑c : Int))) (Q0 (Int.toNat (↑i : Int)) (Int.toNat (↑c : Int))) ≤ (1099511627776 : Int) ∧ (-1099511627776 : Int) ≤ M.P.stHi (M.P.mk (M.W.mk w h s n x y lo hi) dl dh ll lh (↑c : Int)) (V0 (Int.toNat (↑i : Int)) (Int.toNat (↑c : Int))) (V1 (Int.toNat (↑i : Int)) (Int.toNat (↑c : Int))) (B (Int.toNat (↑i : Int)) (Int.toNat (↑c : Int))) (Q1 (Int.toNat (↑i : Int)) (Int.toNat (↑c : Int))) ∧ M.P.stHi (M.P.mk (M.W.mk w h s n x y lo hi) dl dh ll lh (↑c : Int)) (V0 (Int.toNat (↑i : Int)) (Int.toNat (↑c : Int))) (V1 (Int.toNat (↑i : Int)) (Int.toNat (↑c : Int))) (B (Int.toNat (↑i : Int)) (Int.toNat (↑c : Int))) (Q1 (Int.toNat (↑i : Int)) (Int.toNat (↑c : Int))) ≤ (1099511627776 : Int) ∧ R64 ((↑i : Int) + (1 : Int)) ∧ ((i + (1 : Nat) ≤ nl ∧ c < n) ∧ M.P.ok (M.P.mk (M.W.mk w h s n x y lo hi) dl dh ll lh (0 : Int)) ∧ ((-1099511627776 : Int) ≤ a ∧ a ≤ (1099511627776 : Int)) ∧ ((-1099511627776 : Int) ≤ b ∧ b ≤ (1099511627776 : Int)) ∧ nl ≤ (500 : Nat) ∧ ∀ (j : Nat), j < nl → M.Fl.rowOk (M.Fl.mk nl m V0 V1 B Q0 Q1) (w * h) j = true) ∧ nl - (i + (1 : Nat)) < nl - i ∧ () = () ∧ (nl = nl ∧ ∀ (k : Nat), k < nl → m k = m k ∧ ∀ (k_1 : Nat), k_1 < m k → V0 k k_1 = V0 k k_1 ∧ V1 k k_1 = V1 k k_1 ∧ B k k_1 = B k k_1 ∧ Q0 k k_1 = Q0 k k_1 ∧ Q1 k k_1 = Q1 k k_1) ∧ (0 : Nat) = (0 : Nat) ∧ c = c ∧ w * h = w * h ∧ (↑c : Int) = (↑c : Int) ∧ (nl = nl ∧ ∀ (k : Nat), k < nl → m k = m k ∧ ∀ (k_1 : Nat), k_1 < m k → V0 k k_1 = V0 k k_1 ∧ V1 k k_1 = V1 k k_1 ∧ B k k_1 = B k k_1 ∧ Q0 k k_1 = Q0 k k_1 ∧ Q1 k k_1 = Q1 k k_1) ∧ (↑nl : Int) = (↑nl : Int) ∧ (↑i : Int) + (1 : Int) = (↑(i + (1 : Nat)) : Int) ∧ dl = dl ∧ dh = dh ∧ ll = ll ∧ lh = lh ∧ a = a ∧ b = b ∧ w = w ∧ h = h ∧ s = s ∧ (n = n ∧ ∀ (k : Nat), k < n → x k = x k ∧ y k = y k) ∧ lo = lo ∧ hi = hi ∧ dl = dl ∧ dh = dh ∧ ll = ll ∧ lh = lh ∧ (↑c : Int) = (↑c : Int) ∧ c = c ∧ (∀ (k : Nat), k < c → M.P.cLo (M.P.mk (M.W.mk w h s n x y lo hi) dl dh ll lh (0 : Int)) a (M.Fl.mk nl m V0 V1 B Q0 Q1) k nl = M.P.cLo (M.P.mk (M.W.mk w h s n x y lo hi) dl dh ll lh (0 : Int)) a (M.Fl.mk nl m V0 V1 B Q0 Q1) k nl ∧ M.P.cHi (M.P.mk (M.W.mk w h s n x y lo hi) dl dh ll lh (0 : Int)) b (M.Fl.mk nl m V0 V1 B Q0 Q1) k nl = M.P.cHi (M.P.mk (M.W.mk w h s n x y lo hi) dl dh ll lh (0 : Int)) b (M.Fl.mk nl m V0 V1 B Q0 Q1) k nl) ∧ M.fLo ll lh (M.P.cLo (M.P.mk (M.W.mk w h s n x y lo hi) dl dh ll lh (0 : Int)) a (M.Fl.mk nl m V0 V1 B Q0 Q1) c i) (M.P.stLo (M.P.mk (M.W.mk w h s n x y lo hi) dl dh ll lh (↑c : Int)) (V0 (Int.toNat (↑i : Int)) (Int.toNat (↑c : Int))) (V1 (Int.toNat (↑i : Int)) (Int.toNat (↑c : Int))) (B (Int.toNat (↑i : Int)) (Int.toNat (↑c : Int))) (Q0 (Int.toNat (↑i : Int)) (Int.toNat (↑c : Int)))) = M.P.cLo (M.P.mk (M.W.mk w h s n x y lo hi) dl dh ll lh (0 : Int)) a (M.Fl.mk nl m V0 V1 B Q0 Q1) c (i + (1 : Nat)) ∧ M.fHi ll lh (M.P.cHi (M.P.mk (M.W.mk w h s n x y lo hi) dl dh ll lh (0 : Int)) b (M.Fl.mk nl m V0 V1 B Q0 Q1) c i) (M.P.stHi (M.P.mk (M.W.mk w h s n x y lo hi) dl dh ll lh (↑c : Int)) (V0 (Int.toNat (↑i : Int)) (Int.toNat (↑c : Int))) (V1 (Int.toNat (↑i : Int)) (Int.toNat (↑c : Int))) (B (Int.toNat (↑i : Int)) (Int.toNat (↑c : Int))) (Q1 (Int.toNat (↑i : Int)) (Int.toNat (↑c : Int)))) = M.P.cHi (M.P.mk (M.W.mk w h s n x y lo hi) dl dh ll lh (0 : Int)) b (M.Fl.mk nl m V0 V1 B Q0 Q1) c (i + (1 : Nat)) ∧ True) ∧ (decide ((↑i : Int) < (↑nl : Int)) = false → false = false ∧ (nl = nl ∧ ∀ (k : Nat), k < nl → m k = m k ∧ ∀ (k_1 : Nat), k_1 < m k → V0 k k_1 = V0 k k_1 ∧ V1 k k_1 = V1 k k_1 ∧ B k k_1 = B k k_1 ∧ Q0 k k_1 = Q0 k k_1 ∧ Q1 k k_1 = Q1 k k_1) ∧ (0 : Nat) = (0 : Nat) ∧ c = c ∧ w * h = w * h ∧ (↑c : Int) = (↑c : Int) ∧ dl = dl ∧ dh = dh ∧ ll = ll ∧ lh = lh ∧ a = a ∧ b = b ∧ w = w ∧ h = h ∧ s = s ∧ (n = n ∧ ∀ (k : Nat), k < n → x k = x k ∧ y k = y k) ∧ lo = lo ∧ hi = hi ∧ dl = dl ∧ dh = dh ∧ ll = ll ∧ lh = lh ∧ (↑c : Int) = (↑c : Int) ∧ c = c ∧ (∀ (k : Nat), k < c → M.P.cLo (M.P.mk (M.W.mk w h s n x y lo hi) dl dh ll lh (0 : Int)) a (M.Fl.mk nl m V0 V1 B Q0 Q1) k nl = M.P.cLo (M.P.mk (M.W.mk w h s n x y lo hi) dl dh ll lh (0 : Int)) a (M.Fl.mk nl m V0 V1 B Q0 Q1) k nl ∧ M.P.cHi (M.P.mk (M.W.mk w h s n x y lo hi) dl dh ll lh (0 : Int)) b (M.Fl.mk nl m V0 V1 B Q0 Q1) k nl = M.P.cHi (M.P.mk (M.W.mk w h s n x y lo hi) dl dh ll lh (0 : Int)) b (M.Fl.mk nl m V0 V1 B Q0 Q1) k nl) ∧ M.P.cLo (M.P.mk (M.W.mk w h s n x y lo hi) dl dh ll lh (0 : Int)) a (M.Fl.mk nl m V0 V1 B Q0 Q1) c i = M.P.cLo (M.P.mk (M.W.mk w h s n x y lo hi) dl dh ll lh (0 : Int)) a (M.Fl.mk nl m V0 V1 B Q0 Q1) c nl ∧ M.P.cHi (M.P.mk (M.W.mk w h s n x y lo hi) dl dh ll lh (0 : Int)) b (M.Fl.mk nl m V0 V1 B Q0 Q1) c i = M.P.cHi (M.P.mk (M.W.mk w h s n x y lo hi) dl dh ll lh (0 : Int)) b (M.Fl.mk nl m V0 V1 B Q0 Q1) c nl ∧ True)
theorem q48d (w h s : Int) (n : Nat) (x y : Nat → Int) (lo hi dl dh ll lh : Int) (a b : Int) (nl : Nat) (m : Nat → Nat) (V0 V1 B Q0 Q1 : Nat → Nat → Int) (c : Nat) (i : Nat) : VL true [] [(84, pureE e84), (86, pureE e86)] YS.none Try.f48 0 [0,1,2,3,4,5,6,7,8,10,11,12,13,15,17,18,19,20,22,30,34,39,43,44,45,46,54,55,56,57,58,64,70,71,72,77,78,79,80] [] 7 (lp48d w h s n x y lo hi dl dh ll lh a b nl m V0 V1 B Q0 Q1 c) (i) = Rq48d w h s n x y lo hi dl dh ll lh a b nl m V0 V1 B Q0 Q1 c i := by kernel_rfl
theorem peq48d (w h s : Int) (n : Nat) (x y : Nat → Int) (lo hi dl dh ll lh : Int) (a b : Int) (nl : Nat) (m : Nat → Nat) (V0 V1 B Q0 Q1 : Nat → Nat → Int) (c : Nat) (i : Nat) : (lp48d w h s n x y lo hi dl dh ll lh a b nl m V0 V1 B Q0 Q1 c).pre (i) = ((i ≤ nl ∧ c < n) ∧
  M.P.ok (M.P.mk (M.W.mk w h s n x y lo hi) dl dh ll lh (0 : Int)) ∧
    ((-1099511627776 : Int) ≤ a ∧ a ≤ (1099511627776 : Int)) ∧
      ((-1099511627776 : Int) ≤ b ∧ b ≤ (1099511627776 : Int)) ∧
        nl ≤ (500 : Nat) ∧ ∀ (j : Nat), j < nl → M.Fl.rowOk (M.Fl.mk nl m V0 V1 B Q0 Q1) (w * h) j = true) := by kernel_rfl
theorem bq48d (w h s : Int) (n : Nat) (x y : Nat → Int) (lo hi dl dh ll lh : Int) (a b : Int) (nl : Nat) (m : Nat → Nat) (V0 V1 B Q0 Q1 : Nat → Nat → Int) (c : Nat) (i : Nat) (hp : (i ≤ nl ∧ c < n) ∧
  M.P.ok (M.P.mk (M.W.mk w h s n x y lo hi) dl dh ll lh (0 : Int)) ∧
    ((-1099511627776 : Int) ≤ a ∧ a ≤ (1099511627776 : Int)) ∧
      ((-1099511627776 : Int) ≤ b ∧ b ≤ (1099511627776 : Int)) ∧
        nl ≤ (500 : Nat) ∧ ∀ (j : Nat), j < nl → M.Fl.rowOk (M.Fl.mk nl m V0 V1 B Q0 Q1) (w * h) j = true) : Rq48d w h s n x y lo hi dl dh ll lh a b nl m V0 V1 B Q0 Q1 c i := by
  unfold Rq48d
  obtain ⟨⟨hi', hcn⟩, hok, ha, hb, h5, ho⟩ := id hp
  have l1 := hok.l1; have l2 := hok.l2; have l3 := hok.l3
  simp only at l1 l2 l3
  have e1 := M.P.cLo_succ (M.P.mk (M.W.mk w h s n x y lo hi) dl dh ll lh 0) a (M.Fl.mk nl m V0 V1 B Q0 Q1) c i
  have e2 := M.P.cHi_succ (M.P.mk (M.W.mk w h s n x y lo hi) dl dh ll lh 0) b (M.Fl.mk nl m V0 V1 B Q0 Q1) c i
  have hN : ∀ c : Nat, M.P.mk (M.W.mk w h s n x y lo hi) dl dh ll lh c = M.P.cell (M.P.mk (M.W.mk w h s n x y lo hi) dl dh ll lh 0) c := fun _ => rfl
  simp only at e1 e2
  simp only [Int.toNat_natCast, hN, ← e1, ← e2]
  clear e1 e2 hN
  unfold R64
  by_cases hlt : i < nl
  · have hr := hok.crun ha hb (g := (M.Fl.mk nl m V0 V1 B Q0 Q1)) ho (c := c) (i := i) hcn (by show i ≤ nl; omega)
    obtain ⟨cw, hw⟩ := hok.cwind (g := (M.Fl.mk nl m V0 V1 B Q0 Q1)) ho (c := c) (i := i) hcn hlt
    simp only at cw
    have hs := (hok.cell (c := c) hcn).steady hw
    have hcok := hok.cell (c := c) hcn
    simp only at hs hw
    simp [hlt, hcn, h5, hok, hcok, hw, l1, l2, l3, hr, ho, ha, hb, cw, -Int.reduceNeg]
    repeat' apply And.intro
    all_goals first | omega | exact ho
  · have e : i = nl := by omega
    subst e
    simp
theorem t48d (w h s : Int) (n : Nat) (x y : Nat → Int) (lo hi dl dh ll lh : Int) (a b : Int) (nl : Nat) (m : Nat → Nat) (V0 V1 B Q0 Q1 : Nat → Nat → Int) (c : Nat) {F : Fence} (hF : FOK F) (Y : YEnv PP YS.none) : ∀ Q A H nx, loopT false Try.f48.ntmps 0 (lp48d w h s n x y lo hi dl dh ll lh a b nl m V0 V1 B Q0 Q1 c) (fun _ _ _ => (0 : Nat)) Q A H nx → WPS Y F Try.f48.ntmps 0 (.block 7 (blkAt 7 Try.f48)) Q A H nx :=
  loopW (E := []) (.nil) (O := [(84, pureE e84), (86, pureE e86)]) (.cons (pureE_ok s84) (.cons (pureE_ok s86) (.nil))) (ck := true) (L := [0,1,2,3,4,5,6,7,8,10,11,12,13,15,17,18,19,20,22,30,34,39,43,44,45,46,54,55,56,57,58,64,70,71,72,77,78,79,80]) (f := Try.f48) (m := 0) (id := 7) (l := (lp48d w h s n x y lo hi dl dh ll lh a b nl m V0 V1 B Q0 Q1 c)) (LI := fun i => []) Y hF (by kernel_rfl) (fun _ => .nil) (by
    rintro i hp
    exact Hold.of (q48d w h s n x y lo hi dl dh ll lh a b nl m V0 V1 B Q0 Q1 c i) (bq48d w h s n x y lo hi dl dh ll lh a b nl m V0 V1 B Q0 Q1 c i ((peq48d w h s n x y lo hi dl dh ll lh a b nl m V0 V1 B Q0 Q1 c i).mp hp)))
def lp48c (w h s : Int) (n : Nat) (x y : Nat → Int) (lo hi dl dh ll lh : Int) (a b : Int) (nl : Nat) (m : Nat → Nat) (V0 V1 B Q0 Q1 : Nat → Nat → Int) : LoopS where
  ι := Nat
  β := Unit
  pre c := c ≤ n ∧ M.P.ok (M.P.mk (M.W.mk w h s n x y lo hi) dl dh ll lh 0) ∧ (-1099511627776 ≤ a ∧ a ≤ 1099511627776) ∧ (-1099511627776 ≤ b ∧ b ≤ 1099511627776) ∧ (nl ≤ 500 ∧ ∀ j, j < nl → M.Fl.rowOk (M.Fl.mk nl m V0 V1 B Q0 Q1) (w * h) j = true)
  μ c := n - c
  next c _ _ _ := c + 1
  out _ := ()
  early _ := false
  SA c := [(4, .sl 1 nl (fun i => [.sl 5 (m i) (fun k => [SI (V0 i k), SI (V1 i k), SI (B i k), SI (Q0 i k), SI (Q1 i k)])])), (7, .ptr 0 0), (8, .ptr 1 0), (12, .ptr 2 0), (19, .vec 3 2 0 c), (70, SI (w * h)), (71, SI c)]
  SH c := [(0, .cells [SI dl, SI dh, SI ll, SI lh]), (1, .cells [SI a, SI b]), (2, .cells [SI w, SI h, SI s, .sl 2 n (fun k => [SI (x k), SI (y k)]), SI lo, SI hi, SI dl, SI dh, SI ll, SI lh, .top]), (3, .row 2 c (fun k => [SI (M.P.cLo (M.P.mk (M.W.mk w h s n x y lo hi) dl dh ll lh 0) a (M.Fl.mk nl m V0 V1 B Q0 Q1) k nl), SI (M.P.cHi (M.P.mk (M.W.mk w h s n x y lo hi) dl dh ll lh 0) b (M.Fl.mk nl m V0 V1 B Q0 Q1) k nl)]))]
  n0 := 4
  NA _ := [(19, .vec 0 2 0 n)]
  NH _ := [(0, .row 2 n (fun k => [SI (M.P.cLo (M.P.mk (M.W.mk w h s n x y lo hi) dl dh ll lh 0) a (M.Fl.mk nl m V0 V1 B Q0 Q1) k nl), SI (M.P.cHi (M.P.mk (M.W.mk w h s n x y lo hi) dl dh ll lh 0) b (M.Fl.mk nl m V0 V1 B Q0 Q1) k nl)]))]
  n1 := 1
  RA _ := []
  RH _ := []
def Rq48c (w h s : Int) (n : Nat) (x y : Nat → Int) (lo hi dl dh ll lh : Int) (a b : Int) (nl : Nat) (m : Nat → Nat) (V0 V1 B Q0 Q1 : Nat → Nat → Int) (c : Nat) : Prop := (decide ((↑c : Int) < w * h) = true → (((0 : Nat) ≤ nl ∧ c < n) ∧ M.P.ok (M.P.mk (M.W.mk w h s n x y lo hi) dl dh ll lh (0 : Int)) ∧ ((-1099511627776 : Int) ≤ a ∧ a ≤ (1099511627776 : Int)) ∧ ((-1099511627776 : Int) ≤ b ∧ b ≤ (1099511627776 : Int)) ∧ nl ≤ (500 : Nat) ∧ ∀ (j : Nat), j < nl → M.Fl.rowOk (M.Fl.mk nl m V0 V1 B Q0 Q1) (w * h) j = true) ∧ ((nl = nl ∧ ∀ (k : Nat), k < nl → m k = m k ∧ ∀ (k_1 : Nat), k_1 < m k → V0 k k_1 = V0 k k_1 ∧ V1 k k_1 = V1 k k_1 ∧ B k k_1 = B k k_1 ∧ Q0 k k_1 = Q0 k k_1 ∧ Q1 k k_1 = Q1 k k_1) ∧ (0 : Nat) = (0 : Nat) ∧ c = c ∧ w * h = w * h ∧ (↑c : Int) = (↑c : Int) ∧ (nl = nl ∧ ∀ (k : Nat), k < nl → m k = m k ∧ ∀ (k_1 : Nat), k_1 < m k → V0 k k_1 = V0 k k_1 ∧ V1 k k_1 = V1 k k_1 ∧ B k k_1 = B k k_1 ∧ Q0 k k_1 = Q0 k k_1 ∧ Q1 k k_1 = Q1 k k_1) ∧ (↑nl : Int) = (↑nl : Int) ∧ (0 : Int) = (↑(0 : Nat) : Int) ∧ dl = dl ∧ dh = dh ∧ ll = ll ∧ lh = lh ∧ a = a ∧ b = b ∧ w = w ∧ h = h ∧ s = s ∧ (n = n ∧ ∀ (k : Nat), k < n → x k = x k ∧ y k = y k) ∧ lo = lo ∧ hi = hi ∧ dl = dl ∧ dh = dh ∧ ll = ll ∧ lh = lh ∧ (↑c : Int) = (↑c : Int) ∧ c = c ∧ (∀ (k : Nat), k < c → M.P.cLo (M.P.mk (M.W.mk w h s n x y lo hi) dl dh ll lh (0 : Int)) a (M.Fl.mk nl m V0 V1 B Q0 Q1) k nl = M.P.cLo (M.P.mk (M.W.mk w h s n x y lo hi) dl dh ll lh (0 : Int)) a (M.Fl.mk nl m V0 V1 B Q0 Q1) k nl ∧ M.P.cHi (M.P.mk (M.W.mk w h s n x y lo hi) dl dh ll lh (0 : Int)) b (M.Fl.mk nl m V0 V1 B Q0 Q1) k nl = M.P.cHi (M.P.mk (M.W.mk w h s n x y lo hi) dl dh ll lh (0 : Int)) b (M.Fl.mk nl m V0 V1 B Q0 Q1) k nl) ∧ a = M.P.cLo (M.P.mk (M.W.mk w h s n x y lo hi) dl dh ll lh (0 : Int)) a (M.Fl.mk nl m V0 V1 B Q0 Q1) c (0 : Nat) ∧ b = M.P.cHi (M.P.mk (M.W.mk w h s n x y lo hi) dl dh ll lh (0 : Int)) b (M.Fl.mk nl m V0 V1 B Q0 Q1) c (0 : Nat) ∧ True) ∧ (false = false → (0 : Nat) + (1 : Nat) ≤ (1 : Nat) ∧ (∀ (k : Nat), k < (1 : Nat) → true = true) ∧ c ≤ c ∧ (c + (1 : Nat)) * (16 : Nat) ≤ (140737488355328 : Nat) ∧ R64 ((↑c : Int) + (1 : Int)) ∧ (c + (1 : Nat) ≤ n ∧ M.P.ok (M.P.mk (M.W.mk w h s n x y lo hi) dl dh ll lh (0 : Int)) ∧ ((-1099511627776 : Int) ≤ a ∧ a ≤ (1099511627776 : Int)) ∧ ((-1099511627776 : Int) ≤ b ∧ b ≤ (1099511627776 : Int)) ∧ nl ≤ (500 : Nat) ∧ ∀ (j : Nat), j < nl → M.Fl.rowOk (M.Fl.mk nl m V0 V1 B Q0 Q1) (w * h) j = true) ∧ n - (c + (1 : Nat)) < n - c ∧ () = () ∧ (nl = nl ∧ ∀ (k : Nat), k < nl → m k = m k ∧ ∀ (k_1 : Nat), k_1 < m k → V0 k k_1 = V0 k k_1 ∧ V1 k k_1 = V1 k k_1 ∧ B k k_1 = B k k_1 ∧ Q0 k k_1 = Q0 k k_1 ∧ Q1 k k_1 = Q1 k k_1) ∧ (0 : Nat) = (0 : Nat) ∧ c + (1 : Nat) = c + (1 : Nat) ∧ w * h = w * h ∧ (↑c : Int) + (1 : Int) = (↑(c + (1 : Nat)) : Int) ∧ dl = dl ∧ dh = dh ∧ ll = ll ∧ lh = lh ∧ a = a ∧ b = b ∧ w = w ∧ h = h ∧ s = s ∧ (n = n ∧ ∀ (k : Nat), k < n → x k = x k ∧ y k = y k) ∧ lo = lo ∧ hi = hi ∧ dl = dl ∧ dh = dh ∧ ll = ll ∧ lh = lh ∧ c + (1 : Nat) = c + (1 : Nat) ∧ (∀ (k : Nat), k < c + (1 : Nat) → (bif decide (k < c) then M.P.cLo (M.P.mk (M.W.mk w h s n x y lo hi) dl dh ll lh (0 : Int)) a (M.Fl.mk nl m V0 V1 B Q0 Q1) k nl else M.P.cLo (M.P.mk (M.W.mk w h s n x y lo hi) dl dh ll lh (0 : Int)) a (M.Fl.mk nl m V0 V1 B Q0 Q1) c nl) = M.P.cLo (M.P.mk (M.W.mk w h s n x y lo hi) dl dh ll lh (0 : Int)) a (M.Fl.mk nl m V0 V1 B Q0 Q1) k nl ∧ (bif decide (k < c) then M.P.cHi (M.P.mk (M.W.mk w h s n x y lo hi) dl dh ll lh (0 : Int)) b (M.Fl.mk nl m V0 V1 B Q0 Q1) k nl else M.P.cHi (M.P.mk (M.W.mk w h s n x y lo hi) dl dh ll lh (0 : Int)) b (M.Fl.mk nl m V0 V1 B Q0 Q1) c nl) = M.P.cHi (M.P.mk (M.W.mk w h s n x y lo hi) dl dh ll lh (0 : Int)) b (M.Fl.mk nl m V0 V1 B Q0 Q1) k nl) ∧ True) ∧ (false = true → false = true ∧ True)) ∧ (decide ((↑c : Int) < w * h) = false → false = false ∧ (0 : Nat) = (0 : Nat) ∧ c = n ∧ c = n ∧ (∀ (k : Nat), k < c → M.P.cLo (M.P.mk (M.W.mk w h s n x y lo hi) dl dh ll lh (0 : Int)) a (M.Fl.mk nl m V0 V1 B Q0 Q1) k nl = M.P.cLo (M.P.mk (M.W.mk w h s n x y lo hi) dl dh ll lh (0 : Int)) a (M.Fl.mk nl m V0 V1 B Q0 Q1) k nl ∧ M.P.cHi (M.P.mk (M.W.mk w h s n x y lo hi) dl dh ll lh (0 : Int)) b (M.Fl.mk nl m V0 V1 B Q0 Q1) k nl = M.P.cHi (M.P.mk (M.W.mk w h s n x y lo hi) dl dh ll lh (0 : Int)) b (M.Fl.mk nl m V0 V1 B Q0 Q1) k nl) ∧ True)
theorem q48c (w h s : Int) (n : Nat) (x y : Nat → Int) (lo hi dl dh ll lh : Int) (a b : Int) (nl : Nat) (m : Nat → Nat) (V0 V1 B Q0 Q1 : Nat → Nat → Int) (c : Nat) : VL true [] [] YS.none Try.f48 0 [0,1,2,3,4,5,6,7,8,10,11,12,13,15,17,18,19,20,22,30,34,39,43,44,45,46,54,55,56,57,58,64,70,71,72,77,78,79,80] [(7, loopT false Try.f48.ntmps 0 (lp48d w h s n x y lo hi dl dh ll lh a b nl m V0 V1 B Q0 Q1 c) (fun _ _ _ => (0 : Nat)))] 5 (lp48c w h s n x y lo hi dl dh ll lh a b nl m V0 V1 B Q0 Q1) (c) = Rq48c w h s n x y lo hi dl dh ll lh a b nl m V0 V1 B Q0 Q1 c := by kernel_rfl
theorem peq48c (w h s : Int) (n : Nat) (x y : Nat → Int) (lo hi dl dh ll lh : Int) (a b : Int) (nl : Nat) (m : Nat → Nat) (V0 V1 B Q0 Q1 : Nat → Nat → Int) (c : Nat) : (lp48c w h s n x y lo hi dl dh ll lh a b nl m V0 V1 B Q0 Q1).pre (c) = (c ≤ n ∧
  M.P.ok (M.P.mk (M.W.mk w h s n x y lo hi) dl dh ll lh (0 : Int)) ∧
    ((-1099511627776 : Int) ≤ a ∧ a ≤ (1099511627776 : Int)) ∧
      ((-1099511627776 : Int) ≤ b ∧ b ≤ (1099511627776 : Int)) ∧
        nl ≤ (500 : Nat) ∧ ∀ (j : Nat), j < nl → M.Fl.rowOk (M.Fl.mk nl m V0 V1 B Q0 Q1) (w * h) j = true) := by kernel_rfl
theorem bq48c (w h s : Int) (n : Nat) (x y : Nat → Int) (lo hi dl dh ll lh : Int) (a b : Int) (nl : Nat) (m : Nat → Nat) (V0 V1 B Q0 Q1 : Nat → Nat → Int) (c : Nat) (hp : c ≤ n ∧
  M.P.ok (M.P.mk (M.W.mk w h s n x y lo hi) dl dh ll lh (0 : Int)) ∧
    ((-1099511627776 : Int) ≤ a ∧ a ≤ (1099511627776 : Int)) ∧
      ((-1099511627776 : Int) ≤ b ∧ b ≤ (1099511627776 : Int)) ∧
        nl ≤ (500 : Nat) ∧ ∀ (j : Nat), j < nl → M.Fl.rowOk (M.Fl.mk nl m V0 V1 B Q0 Q1) (w * h) j = true) : Rq48c w h s n x y lo hi dl dh ll lh a b nl m V0 V1 B Q0 Q1 c := by
  unfold Rq48c
  obtain ⟨hc, hok, ha, hb, h5, ho⟩ := id hp
  have hg := hok.g.nn
  have ha2 := M.area hok.g.w1 hok.g.w2 hok.g.h1 hok.g.h2
  simp only at hg ha2
  have z1 : M.P.cLo (M.P.mk (M.W.mk w h s n x y lo hi) dl dh ll lh 0) a (M.Fl.mk nl m V0 V1 B Q0 Q1) c 0 = a := rfl
  have z2 : M.P.cHi (M.P.mk (M.W.mk w h s n x y lo hi) dl dh ll lh 0) b (M.Fl.mk nl m V0 V1 B Q0 Q1) c 0 = b := rfl
  have key : ∀ j, j < c + 1 → (bif decide (j < c) then M.P.cLo (M.P.mk (M.W.mk w h s n x y lo hi) dl dh ll lh 0) a (M.Fl.mk nl m V0 V1 B Q0 Q1) j nl else M.P.cLo (M.P.mk (M.W.mk w h s n x y lo hi) dl dh ll lh 0) a (M.Fl.mk nl m V0 V1 B Q0 Q1) c nl) = M.P.cLo (M.P.mk (M.W.mk w h s n x y lo hi) dl dh ll lh 0) a (M.Fl.mk nl m V0 V1 B Q0 Q1) j nl ∧ (bif decide (j < c) then M.P.cHi (M.P.mk (M.W.mk w h s n x y lo hi) dl dh ll lh 0) b (M.Fl.mk nl m V0 V1 B Q0 Q1) j nl else M.P.cHi (M.P.mk (M.W.mk w h s n x y lo hi) dl dh ll lh 0) b (M.Fl.mk nl m V0 V1 B Q0 Q1) c nl) = M.P.cHi (M.P.mk (M.W.mk w h s n x y lo hi) dl dh ll lh 0) b (M.Fl.mk nl m V0 V1 B Q0 Q1) j nl := fun j hj => by
    by_cases h : j < c
    · simp [h]
    · have : j = c := by omega
      subst this; simp
  simp only [z1, z2]
  clear z1 z2
  unfold R64
  by_cases hlt : (c : Int) < w * h
  · simp [hlt, hok, ha, hb, h5, -Int.reduceNeg]
    repeat' apply And.intro
    all_goals first | omega | exact ho | exact key
  · have e : c = n := by omega
    subst e
    simp [hlt]
    try omega
theorem t48c (w h s : Int) (n : Nat) (x y : Nat → Int) (lo hi dl dh ll lh : Int) (a b : Int) (nl : Nat) (m : Nat → Nat) (V0 V1 B Q0 Q1 : Nat → Nat → Int) {F : Fence} (hF : FOK F) (Y : YEnv PP YS.none) : ∀ Q A H nx, loopT false Try.f48.ntmps 0 (lp48c w h s n x y lo hi dl dh ll lh a b nl m V0 V1 B Q0 Q1) (fun _ _ _ => (0 : Nat)) Q A H nx → WPS Y F Try.f48.ntmps 0 (.block 5 (blkAt 5 Try.f48)) Q A H nx :=
  loopW (E := []) (.nil) (O := []) (.nil) (ck := true) (L := [0,1,2,3,4,5,6,7,8,10,11,12,13,15,17,18,19,20,22,30,34,39,43,44,45,46,54,55,56,57,58,64,70,71,72,77,78,79,80]) (f := Try.f48) (m := 0) (id := 5) (l := (lp48c w h s n x y lo hi dl dh ll lh a b nl m V0 V1 B Q0 Q1)) (LI := fun c => [(7, loopT false Try.f48.ntmps 0 (lp48d w h s n x y lo hi dl dh ll lh a b nl m V0 V1 B Q0 Q1 c) (fun _ _ _ => (0 : Nat)))]) Y hF (by kernel_rfl) (fun c => .cons (by kernel_rfl) (t48d w h s n x y lo hi dl dh ll lh a b nl m V0 V1 B Q0 Q1 c hF Y) (.nil)) (by
    rintro c hp
    exact Hold.of (q48c w h s n x y lo hi dl dh ll lh a b nl m V0 V1 B Q0 Q1 c) (bq48c w h s n x y lo hi dl dh ll lh a b nl m V0 V1 B Q0 Q1 c ((peq48c w h s n x y lo hi dl dh ll lh a b nl m V0 V1 B Q0 Q1 c).mp hp)))
def e48 : List SV → Option (List Prop × SV)
  | [.agg [.int .i64 w, .int .i64 h, .int .i64 s, .sl 2 n g_1], .agg [.int .i64 lo, .int .i64 hi], .agg [.int .i64 dl, .int .i64 dh, .int .i64 ll, .int .i64 lh], .agg [.int .i64 a, .int .i64 b], .sl 1 nl G_2] => some ([Row 2 n g_1, RowN 5 nl G_2, R64 n, R64 nl, (∀ i, i < nl → R64 ((rN G_2) i))], .tup [.sl 2 (if M.P.fieldE (M.P.mk (M.W.mk w h s n (cI g_1 0) (cI g_1 1) lo hi) dl dh ll lh 0) a b (M.Fl.mk nl (rN G_2) (rC G_2 0) (rC G_2 1) (rC G_2 2) (rC G_2 3) (rC G_2 4)) = 0 then n else 0) (fun k => [SI (M.P.cLo (M.P.mk (M.W.mk w h s n (cI g_1 0) (cI g_1 1) lo hi) dl dh ll lh 0) a (M.Fl.mk nl (rN G_2) (rC G_2 0) (rC G_2 1) (rC G_2 2) (rC G_2 3) (rC G_2 4)) k nl), SI (M.P.cHi (M.P.mk (M.W.mk w h s n (cI g_1 0) (cI g_1 1) lo hi) dl dh ll lh 0) b (M.Fl.mk nl (rN G_2) (rC G_2 0) (rC G_2 1) (rC G_2 2) (rC G_2 3) (rC G_2 4)) k nl)]), SI (M.P.fieldE (M.P.mk (M.W.mk w h s n (cI g_1 0) (cI g_1 1) lo hi) dl dh ll lh 0) a b (M.Fl.mk nl (rN G_2) (rC G_2 0) (rC G_2 1) (rC G_2 2) (rC G_2 3) (rC G_2 4)))])
  | _ => none
def Rr48 (w h s : Int) (n : Nat) (x y : Nat → Int) (lo hi dl dh ll lh : Int) (a b : Int) (nl : Nat) (m : Nat → Nat) (V0 V1 B Q0 Q1 : Nat → Nat → Int) : Prop := (∀ (k : Nat), k < n → x k = x k ∧ y k = y k) ∧ R64 (↑n : Int) ∧ ((!decide (M.P.atE (M.P.mk (M.W.mk w h s n x y lo hi) dl dh ll lh (0 : Int)) = (0 : Int))) = true → (if M.P.fieldE (M.P.mk (M.W.mk w h s n x y lo hi) dl dh ll lh (0 : Int)) a b (M.Fl.mk nl m V0 V1 B Q0 Q1) = (0 : Int) then n else (0 : Nat)) = (0 : Nat) ∧ M.P.atE (M.P.mk (M.W.mk w h s n x y lo hi) dl dh ll lh (0 : Int)) = M.P.fieldE (M.P.mk (M.W.mk w h s n x y lo hi) dl dh ll lh (0 : Int)) a b (M.Fl.mk nl m V0 V1 B Q0 Q1)) ∧ ((!decide (M.P.atE (M.P.mk (M.W.mk w h s n x y lo hi) dl dh ll lh (0 : Int)) = (0 : Int))) = false → ((!M.within a b (-1099511627776 : Int) (1099511627776 : Int)) = true → (if M.P.fieldE (M.P.mk (M.W.mk w h s n x y lo hi) dl dh ll lh (0 : Int)) a b (M.Fl.mk nl m V0 V1 B Q0 Q1) = (0 : Int) then n else (0 : Nat)) = (0 : Nat) ∧ (3 : Int) = M.P.fieldE (M.P.mk (M.W.mk w h s n x y lo hi) dl dh ll lh (0 : Int)) a b (M.Fl.mk nl m V0 V1 B Q0 Q1)) ∧ ((!M.within a b (-1099511627776 : Int) (1099511627776 : Int)) = false → (decide ((500 : Int) < (↑nl : Int)) = true → (if M.P.fieldE (M.P.mk (M.W.mk w h s n x y lo hi) dl dh ll lh (0 : Int)) a b (M.Fl.mk nl m V0 V1 B Q0 Q1) = (0 : Int) then n else (0 : Nat)) = (0 : Nat) ∧ (9 : Int) = M.P.fieldE (M.P.mk (M.W.mk w h s n x y lo hi) dl dh ll lh (0 : Int)) a b (M.Fl.mk nl m V0 V1 B Q0 Q1)) ∧ (decide ((500 : Int) < (↑nl : Int)) = false → (((0 : Nat) ≤ nl ∧ R64 (↑nl : Int) ∧ R64 (w * h) ∧ ∀ (i : Nat), i < nl → R64 (↑(m i) : Int)) ∧ ∀ (j : Nat), j < (0 : Nat) → M.Fl.rowOk (M.Fl.mk nl m V0 V1 B Q0 Q1) (w * h) j = true) ∧ ((nl = nl ∧ ∀ (k : Nat), k < nl → m k = m k ∧ ∀ (k_1 : Nat), k_1 < m k → V0 k k_1 = V0 k k_1 ∧ V1 k k_1 = V1 k k_1 ∧ B k k_1 = B k k_1 ∧ Q0 k k_1 = Q0 k k_1 ∧ Q1 k k_1 = Q1 k k_1) ∧ (nl = nl ∧ ∀ (k : Nat), k < nl → m k = m k ∧ ∀ (k_1 : Nat), k_1 < m k → V0 k k_1 = V0 k k_1 ∧ V1 k k_1 = V1 k k_1 ∧ B k k_1 = B k k_1 ∧ Q0 k k_1 = Q0 k k_1 ∧ Q1 k k_1 = Q1 k k_1) ∧ (↑nl : Int) = (↑nl : Int) ∧ (0 : Int) = (↑(0 : Nat) : Int) ∧ dl = dl ∧ dh = dh ∧ ll = ll ∧ lh = lh ∧ a = a ∧ b = b ∧ w = w ∧ h = h ∧ s = s ∧ (n = n ∧ ∀ (k : Nat), k < n → x k = x k ∧ y k = y k) ∧ lo = lo ∧ hi = hi ∧ dl = dl ∧ dh = dh ∧ ll = ll ∧ lh = lh ∧ (0 : Int) = (0 : Int) ∧ True) ∧ ((!M.allB (M.Fl.rowOk (M.Fl.mk nl m V0 V1 B Q0 Q1) (w * h)) nl) = false → (∀ (k : Nat), k < n → x k = x k ∧ y k = y k) ∧ R64 (w * h) ∧ ((0 : Nat) ≤ n ∧ M.P.ok (M.P.mk (M.W.mk w h s n x y lo hi) dl dh ll lh (0 : Int)) ∧ ((-1099511627776 : Int) ≤ a ∧ a ≤ (1099511627776 : Int)) ∧ ((-1099511627776 : Int) ≤ b ∧ b ≤ (1099511627776 : Int)) ∧ nl ≤ (500 : Nat) ∧ ∀ (j : Nat), j < nl → M.Fl.rowOk (M.Fl.mk nl m V0 V1 B Q0 Q1) (w * h) j = true) ∧ ((nl = nl ∧ ∀ (k : Nat), k < nl → m k = m k ∧ ∀ (k_1 : Nat), k_1 < m k → V0 k k_1 = V0 k k_1 ∧ V1 k k_1 = V1 k k_1 ∧ B k k_1 = B k k_1 ∧ Q0 k k_1 = Q0 k k_1 ∧ Q1 k k_1 = Q1 k k_1) ∧ (0 : Nat) = (0 : Nat) ∧ w * h = w * h ∧ (0 : Int) = (↑(0 : Nat) : Int) ∧ dl = dl ∧ dh = dh ∧ ll = ll ∧ lh = lh ∧ a = a ∧ b = b ∧ w = w ∧ h = h ∧ s = s ∧ (n = n ∧ ∀ (k : Nat), k < n → x k = x k ∧ y k = y k) ∧ lo = lo ∧ hi = hi ∧ dl = dl ∧ dh = dh ∧ ll = ll ∧ lh = lh ∧ (0 : Nat) = (0 : Nat) ∧ True) ∧ (false = false → (0 : Nat) + n ≤ n ∧ ((n = if M.P.fieldE (M.P.mk (M.W.mk w h s n x y lo hi) dl dh ll lh (0 : Int)) a b (M.Fl.mk nl m V0 V1 B Q0 Q1) = (0 : Int) then n else (0 : Nat)) ∧ ∀ (k : Nat), k < n → M.P.cLo (M.P.mk (M.W.mk w h s n x y lo hi) dl dh ll lh (0 : Int)) a (M.Fl.mk nl m V0 V1 B Q0 Q1) ((0 : Nat) + k) nl = M.P.cLo (M.P.mk (M.W.mk w h s n x y lo hi) dl dh ll lh (0 : Int)) a (M.Fl.mk nl m V0 V1 B Q0 Q1) k nl ∧ M.P.cHi (M.P.mk (M.W.mk w h s n x y lo hi) dl dh ll lh (0 : Int)) b (M.Fl.mk nl m V0 V1 B Q0 Q1) ((0 : Nat) + k) nl = M.P.cHi (M.P.mk (M.W.mk w h s n x y lo hi) dl dh ll lh (0 : Int)) b (M.Fl.mk nl m V0 V1 B Q0 Q1) k nl) ∧ (0 : Int) = M.P.fieldE (M.P.mk (M.W.mk w h s n x y lo hi) dl dh ll lh (0 : Int)) a b (M.Fl.mk nl m V0 V1 B Q0 Q1)) ∧ (false = true → False)) ∧ ((!M.allB (M.Fl.rowOk (M.Fl.mk nl m V0 V1 B Q0 Q1) (w * h)) nl) = true → (if M.P.fieldE (M.P.mk (M.W.mk w h s n x y lo hi) dl dh ll lh (0 : Int)) a b (M.Fl.mk nl m V0 V1 B Q0 Q1) = (0 : Int) then n else (0 : Nat)) = (0 : Nat) ∧ (3 : Int) = M.P.fieldE (M.P.mk (M.W.mk w h s n x y lo hi) dl dh ll lh (0 : Int)) a b (M.Fl.mk nl m V0 V1 B Q0 Q1)))))
theorem r48 (w h s : Int) (n : Nat) (x y : Nat → Int) (lo hi dl dh ll lh : Int) (a b : Int) (nl : Nat) (m : Nat → Nat) (V0 V1 B Q0 Q1 : Nat → Nat → Int) : V true [] [(80, pureE e80), (69, pureE e69), (92, pureE e92)] Try.f48 [0,1,2,3,4,5,6,7,8,10,11,12,13,15,17,18,19,20,22,30,34,39,43,44,45,46,54,55,56,57,58,64,70,71,72,77,78,79,80] [(1, loopT false Try.f48.ntmps 0 (lp48a w h s n x y lo hi dl dh ll lh a b nl m V0 V1 B Q0 Q1) (fun _ _ _ => (0 : Nat))), (5, loopT false Try.f48.ntmps 0 (lp48c w h s n x y lo hi dl dh ll lh a b nl m V0 V1 B Q0 Q1) (fun _ _ _ => (0 : Nat)))] [.agg [SI w, SI h, SI s, .sl 2 n (fun k => [SI (x k), SI (y k)])], .agg [SI lo, SI hi], .agg [SI dl, SI dh, SI ll, SI lh], .agg [SI a, SI b], .sl 1 nl (fun i => [.sl 5 (m i) (fun k => [SI (V0 i k), SI (V1 i k), SI (B i k), SI (Q0 i k), SI (Q1 i k)])])] (.tup [.sl 2 (if M.P.fieldE (M.P.mk (M.W.mk w h s n x y lo hi) dl dh ll lh 0) a b (M.Fl.mk nl m V0 V1 B Q0 Q1) = 0 then n else 0) (fun k => [SI (M.P.cLo (M.P.mk (M.W.mk w h s n x y lo hi) dl dh ll lh 0) a (M.Fl.mk nl m V0 V1 B Q0 Q1) k nl), SI (M.P.cHi (M.P.mk (M.W.mk w h s n x y lo hi) dl dh ll lh 0) b (M.Fl.mk nl m V0 V1 B Q0 Q1) k nl)]), SI (M.P.fieldE (M.P.mk (M.W.mk w h s n x y lo hi) dl dh ll lh 0) a b (M.Fl.mk nl m V0 V1 B Q0 Q1))]) = Rr48 w h s n x y lo hi dl dh ll lh a b nl m V0 V1 B Q0 Q1 := by kernel_rfl
theorem br48 (w h s : Int) (n : Nat) (x y : Nat → Int) (lo hi dl dh ll lh : Int) (a b : Int) (nl : Nat) (m : Nat → Nat) (V0 V1 B Q0 Q1 : Nat → Nat → Int) (hp : (R64 n) ∧ (R64 nl) ∧ ((∀ i, i < nl → R64 (m i))) ∧ AllP []) : Rr48 w h s n x y lo hi dl dh ll lh a b nl m V0 V1 B Q0 Q1 := by
  unfold Rr48
  obtain ⟨hn, hnl, hR, -⟩ := hp
  have h0 := (@M.P.atE_iff (M.P.mk (M.W.mk w h s n x y lo hi) dl dh ll lh 0)).1
  have ha := @M.allB_iff (M.Fl.rowOk (M.Fl.mk nl m V0 V1 B Q0 Q1) (w * h)) nl
  have hE : M.P.fieldE (M.P.mk (M.W.mk w h s n x y lo hi) dl dh ll lh 0) a b (M.Fl.mk nl m V0 V1 B Q0 Q1) = if M.P.atE (M.P.mk (M.W.mk w h s n x y lo hi) dl dh ll lh 0) = 0 then if M.within a b (-1099511627776) 1099511627776 then if 500 < nl then 9 else if M.allB (M.Fl.rowOk (M.Fl.mk nl m V0 V1 B Q0 Q1) (w * h)) nl then 0 else 3 else 3 else M.P.atE (M.P.mk (M.W.mk w h s n x y lo hi) dl dh ll lh 0) := rfl
  have hw : M.within a b (-1099511627776) 1099511627776 = true → (-1099511627776 ≤ a ∧ a ≤ 1099511627776) ∧ (-1099511627776 ≤ b ∧ b ≤ 1099511627776) := fun h => by
    simp only [M.within, Bool.and_eq_true, decide_eq_true_eq] at h; omega
  have hlt : ((500 : Int) < (nl : Int)) = (500 < nl) := by rw [eq_iff_iff]; omega
  have hwh : M.P.ok (M.P.mk (M.W.mk w h s n x y lo hi) dl dh ll lh 0) → R64 (w * h) := fun hok => by
    have := M.area hok.g.w1 hok.g.w2 hok.g.h1 hok.g.h2
    simp only at this
    unfold R64; omega
  simp only [hlt]
  clear hlt
  generalize M.P.fieldE (M.P.mk (M.W.mk w h s n x y lo hi) dl dh ll lh 0) a b (M.Fl.mk nl m V0 V1 B Q0 Q1) = fin at *
  generalize M.P.atE (M.P.mk (M.W.mk w h s n x y lo hi) dl dh ll lh 0) = e at *
  generalize M.P.ok (M.P.mk (M.W.mk w h s n x y lo hi) dl dh ll lh 0) = OK at *
  generalize M.within a b (-1099511627776) 1099511627776 = W at *
  generalize M.allB (M.Fl.rowOk (M.Fl.mk nl m V0 V1 B Q0 Q1) (w * h)) nl = AL at *
  by_cases he : e = 0
  · have hok := h0 he
    have hwh := hwh hok
    subst he
    cases W
    · simp at hE; subst hE
      simp [hn, hnl, hR, hwh]
      try exact hR
    · obtain ⟨⟨a1, a2⟩, b1, b2⟩ := hw rfl
      by_cases h5 : 500 < nl
      · simp [h5] at hE; subst hE
        simp [hn, hnl, hR, h5, hwh]
        try exact hR
      · have h5' : nl ≤ 500 := by omega
        simp [h5] at hE
        cases AL
        · simp at hE; subst hE
          simp [hn, hnl, hR, h5, hwh]
          try exact hR
        · simp at hE; subst hE
          have ha := ha.1 rfl
          simp [hn, hnl, hR, h5, h5', hok, a1, a2, b1, b2, hwh]
          first | exact ⟨hR, ha⟩ | exact ⟨ha, hR⟩ | (repeat' apply And.intro) <;> first | exact ha | exact hR | exact fun i hi => hR i hi
  · simp [he] at hE
    subst hE
    simp [hn, hnl, hR, he]
    try exact hR
theorem s48 : PureOK PP 48 e48 := by
  intro xs ps res h hp
  unfold e48 at h
  split at h
  · rename_i w h s n g_1 lo hi dl dh ll lh a b nl G_2
    simp only [Option.some.injEq, Prod.mk.injEq] at h
    obtain ⟨rfl, rfl⟩ := h
    simp only [AllP.cons] at hp
    obtain ⟨Hg_1, hp⟩ := hp
    obtain ⟨HG_2, hp⟩ := hp
    refine Spec.args (ys := [.agg [SI w, SI h, SI s, .sl 2 n (fun k => [SI ((cI g_1 0) k), SI ((cI g_1 1) k)])], .agg [SI lo, SI hi], .agg [SI dl, SI dh, SI ll, SI lh], .agg [SI a, SI b], .sl 1 nl (fun i => [.sl 5 ((rN G_2) i) (fun k => [SI ((rC G_2 0) i k), SI ((rC G_2 1) i k), SI ((rC G_2 2) i k), SI ((rC G_2 3) i k), SI ((rC G_2 4) i k)])])]) ?_ (.cons (.agg (.cons (.refl _) (.cons (.refl _) (.cons (.refl _) (.cons (.row Hg_1 fun _ => rfl) .nil))))) (.cons (.refl _) (.cons (.refl _) (.cons (.refl _) (.cons (.rowN HG_2 fun _ => rfl) .nil)))))
    refine enter (L := [0,1,2,3,4,5,6,7,8,10,11,12,13,15,17,18,19,20,22,30,34,39,43,44,45,46,54,55,56,57,58,64,70,71,72,77,78,79,80]) (LO := [(1, loopT false Try.f48.ntmps 0 (lp48a w h s n (cI g_1 0) (cI g_1 1) lo hi dl dh ll lh a b nl (rN G_2) (rC G_2 0) (rC G_2 1) (rC G_2 2) (rC G_2 3) (rC G_2 4)) (fun _ _ _ => (0 : Nat))), (5, loopT false Try.f48.ntmps 0 (lp48c w h s n (cI g_1 0) (cI g_1 1) lo hi dl dh ll lh a b nl (rN G_2) (rC G_2 0) (rC G_2 1) (rC G_2 2) (rC G_2 3) (rC G_2 4)) (fun _ _ _ => (0 : Nat)))]) (E := []) (O := [(80, pureE e80), (69, pureE e69), (92, pureE e92)]) (ck := true) (.nil) (.cons (pureE_ok s80) (.cons (pureE_ok s69) (.cons (pureE_ok s92) (.nil)))) (k := 48) (f := Try.f48) (xs := [.agg [SI w, SI h, SI s, .sl 2 n (fun k => [SI ((cI g_1 0) k), SI ((cI g_1 1) k)])], .agg [SI lo, SI hi], .agg [SI dl, SI dh, SI ll, SI lh], .agg [SI a, SI b], .sl 1 nl (fun i => [.sl 5 ((rN G_2) i) (fun k => [SI ((rC G_2 0) i k), SI ((rC G_2 1) i k), SI ((rC G_2 2) i k), SI ((rC G_2 3) i k), SI ((rC G_2 4) i k)])])]) (r := (.tup [.sl 2 (if M.P.fieldE (M.P.mk (M.W.mk w h s n (cI g_1 0) (cI g_1 1) lo hi) dl dh ll lh 0) a b (M.Fl.mk nl (rN G_2) (rC G_2 0) (rC G_2 1) (rC G_2 2) (rC G_2 3) (rC G_2 4)) = 0 then n else 0) (fun k => [SI (M.P.cLo (M.P.mk (M.W.mk w h s n (cI g_1 0) (cI g_1 1) lo hi) dl dh ll lh 0) a (M.Fl.mk nl (rN G_2) (rC G_2 0) (rC G_2 1) (rC G_2 2) (rC G_2 3) (rC G_2 4)) k nl), SI (M.P.cHi (M.P.mk (M.W.mk w h s n (cI g_1 0) (cI g_1 1) lo hi) dl dh ll lh 0) b (M.Fl.mk nl (rN G_2) (rC G_2 0) (rC G_2 1) (rC G_2 2) (rC G_2 3) (rC G_2 4)) k nl)]), SI (M.P.fieldE (M.P.mk (M.W.mk w h s n (cI g_1 0) (cI g_1 1) lo hi) dl dh ll lh 0) a b (M.Fl.mk nl (rN G_2) (rC G_2 0) (rC G_2 1) (rC G_2 2) (rC G_2 3) (rC G_2 4)))])) (by kernel_rfl) (by kernel_rfl) (fun Y => .cons (by kernel_rfl) (t48a w h s n (cI g_1 0) (cI g_1 1) lo hi dl dh ll lh a b nl (rN G_2) (rC G_2 0) (rC G_2 1) (rC G_2 2) (rC G_2 3) (rC G_2 4) FOK.wide Y) (.cons (by kernel_rfl) (t48c w h s n (cI g_1 0) (cI g_1 1) lo hi dl dh ll lh a b nl (rN G_2) (rC G_2 0) (rC G_2 1) (rC G_2 2) (rC G_2 3) (rC G_2 4) FOK.wide Y) (.nil))) ?_
    exact Hold.of (r48 w h s n (cI g_1 0) (cI g_1 1) lo hi dl dh ll lh a b nl (rN G_2) (rC G_2 0) (rC G_2 1) (rC G_2 2) (rC G_2 3) (rC G_2 4)) (br48 w h s n (cI g_1 0) (cI g_1 1) lo hi dl dh ll lh a b nl (rN G_2) (rC G_2 0) (rC G_2 1) (rC G_2 2) (rC G_2 3) (rC G_2 4) hp)
  · cases h
end Go.Proofs.Ytkklmkogdogbkaa.Sep
