/-
  The small calculus, twenty-fifth part: a range over a function. No condition. (This text proves no statement by itself.)
-/
import Derived.Test.YtkklmkogdogbkaaSep24
namespace Go.Proofs.Ytkklmkogdogbkaa.Sep
open Go
set_option linter.unusedVariables false
set_option linter.unusedSimpArgs false

section
variable {C : Ctx} {ρ : Names} {S : Nat → Prop} {H : Nat → Option Blk} {nx : Nat → Prop} {w : World}
/-- What others do to other blocks, and more that is only read. -/
theorem Mem.move2 (h : Mem C ρ S H nx w) {w' : World} (ρ0 : Names) (S2 O X : Nat → Prop) (hρ : ρ0.le ρ) (hS : ∀ b, S b → S2 b) (hS2 : ∀ b, S2 b → b < w'.heap.size) (hn : ∀ i b, ρ i = some b → S2 b → S b) (hO : ∀ i b, ρ i = some b → O b) (hk : Kept S w w') (hsame : ∀ i b, ρ i = some b → w'.heap[b]? = w.heap[b]?) :
    Mem ⟨w', ρ0, S2, O, X⟩ ρ S2 H nx w' where
  size := Nat.le_refl _
  shape _ _ e := e
  old _ _ _ := rfl
  ent := hρ
  s0 _ e := e
  snew _ e := .inl e
  sin := hS2
  rin i b e := ⟨Nat.lt_of_lt_of_le (h.rin i b e).1 hk.size, .inl (hO i b e)⟩
  own i k b e hl e' hs := h.own i k b e hl e' (hn i b e' hs)
  inj := h.inj
  blk i k e := (h.blk i k e).mono hk hS (Names.le.refl _) (fun n hn => hsame i n hn)
  free := h.free
  keep _ _ _ _ _ e := e
end

mutual
/-- The names in a value are below m. -/
def SV.low (m : Nat) : SV → Bool
  | .lit _ | .int .. | .bool _ | .sl .. | .sptr .. => true
  | .ptr i _ => Nat.blt i m
  | .rptr i _ _ _ => Nat.blt i m
  | .vec i _ _ _ => Nat.blt i m
  | .agg cs => SV.lowL m cs
  | .tup cs => SV.lowL m cs
  | .fn _ xs cs => SV.lowL m xs && SV.lowL m cs
  | _ => false
def SV.lowL (m : Nat) : List SV → Bool
  | [] => true
  | c :: cs => SV.low m c && SV.lowL m cs
end
mutual
theorem low_den {m : Nat} : ∀ x : SV, x.low m = true → x.den.idsLt m = true
  | .lit _, _ | .int .., _ | .bool _, _ | .sl .., _ | .sptr .., _ => rfl
  | .ptr i _, h => by simp only [SV.low] at h; simp only [SV.den, AV.idsLt, decide_eq_true_eq]; exact blt_true h
  | .rptr i _ _ _, h => by simp only [SV.low] at h; simp only [SV.den, AV.idsLt, decide_eq_true_eq]; exact blt_true h
  | .vec i _ _ _, h => by simp only [SV.low] at h; simp only [SV.den, AV.idsLt, decide_eq_true_eq]; exact blt_true h
  | .agg cs, h => by simp only [SV.low] at h; simp only [SV.den, AV.idsLt]; exact lowL_den cs h
  | .tup cs, h => by simp only [SV.low] at h; simp only [SV.den, AV.idsLt]; exact lowL_den cs h
  | .fn _ xs cs, h => by
    simp only [SV.low, Bool.and_eq_true] at h
    simp only [SV.den, AV.idsLt, Bool.and_eq_true]
    exact ⟨lowL_den xs h.1, lowL_den cs h.2⟩
  | .top, h => by simp [SV.low] at h
  | .when .., h => by simp [SV.low] at h
theorem lowL_den {m : Nat} : ∀ xs : List SV, SV.lowL m xs = true → AV.idsLtL m (SV.denL xs) = true
  | [], _ => rfl
  | c :: cs, h => by
    simp only [SV.lowL, Bool.and_eq_true] at h
    simp only [SV.denL, AV.idsLtL, Bool.and_eq_true]
    exact ⟨low_den c h.1, lowL_den cs h.2⟩
end

/-- What is told of a range over a function: what is handed on, the states before each round, and those where a round has left. -/
structure RangeS where
  ι : Type
  pre : ι → Nat → Prop
  cnt : ι → Nat
  f : ι → Nat → List SV
  SA : ι → SSlots
  mf : Nat
  n0 : Nat
  SH : ι → Nat → SBlks
  g0 : ι → Nat → Nat × Bool := fun _ _ => (0, false)
  retP : ι → Nat → Prop := fun _ _ => False
  brkP : ι → Nat → Prop := fun _ _ => False
  XH : ι → Nat → SBlks := fun _ _ => []
  gR : ι → Nat → Nat → Bool → Prop := fun _ _ _ _ => True

/-- What a round must come to. -/
def rfQ (on : Bool) (N id : Nat) (l : RangeS) (i : l.ι) (k : Nat) : SPost := fun e A H nx =>
  match e with
  | .normal => l.pre i (k + 1) ∧ gOK on nx (l.g0 i (k + 1)) (fit N l.mf A H [] (l.SH i (k + 1)) l.n0)
  | .ret => l.retP i k ∧ gOK' on nx (l.gR i k) True (fit N l.mf A H [] (l.XH i k) l.n0)
  | .exit j => match Nat.beq j id with
    | true => l.brkP i k ∧ gOK' on nx (l.gR i k) True (fit N l.mf A H [] (l.XH i k) l.n0)
    | false => False
  | _ => False
def onlyN (K : SSlots → SBlks → Cnt → Prop) : SPost := fun e A H nx =>
  match e with
  | .normal => K A H nx
  | _ => False

/-- The loop's variables, in a round. -/
def paramS : List Nat → List SV → SSlots → SSlots
  | p :: ps, v :: vs, A => paramS ps vs ((p, v) :: A)
  | _, _, A => A

/-- The iterator is one that is known. -/
def rangeF (N m : Nat) (fo : Operand) (gf : FuncId) (it : List SV → Option (List Prop × Nat × (Nat → List SV))) (l : RangeS) (i : l.ι) : Prop :=
  match (l.SA i).all (fun p => p.2.low l.mf && Nat.blt p.1 N) && Nat.ble m l.mf && Nat.ble l.mf l.n0 with
  | true =>
    match fnOfS (opdS (l.SA i) fo).strip with
    | some (g, [], caps) =>
      match Nat.beq g gf with
      | true => allP (opdS (l.SA i) fo).grd <|
        match coeRow (coe2 (getB (l.SH i 0))) caps with
        | some (ps, [], ys) => allP ps <|
          match it ys with
          | some (qs, n, f) => allP qs (n = l.cnt i ∧ ∀ k, k < n → f k = l.f i k)
          | none => False
        | _ => False
      | false => False
    | _ => False
  | false => False

/-- The range as the code before it sees it. -/
def rangeT (on : Bool) (N m : Nat) (fo : Operand) (gf : FuncId) (it : List SV → Option (List Prop × Nat × (Nat → List SV))) (l : RangeS) (par : SSlots → SBlks → Cnt → l.ι) (Q : SPost) (A : SSlots) (H : SBlks) (nx : Cnt) : Prop :=
  l.pre (par A H nx) 0 ∧ gOK on nx (l.g0 (par A H nx) 0) (fit N m A H (l.SA (par A H nx)) (l.SH (par A H nx) 0) l.n0) ∧ rangeF N m fo gf it l (par A H nx) ∧
    (l.pre (par A H nx) (l.cnt (par A H nx)) → Q .normal (l.SA (par A H nx)) (l.SH (par A H nx) (l.cnt (par A H nx))) ⟨l.n0, (l.g0 (par A H nx) (l.cnt (par A H nx))).1, (l.g0 (par A H nx) (l.cnt (par A H nx))).2⟩) ∧
    (∀ k, k < l.cnt (par A H nx) → l.pre (par A H nx) k → l.retP (par A H nx) k → gAll on l.n0 (l.gR (par A H nx) k) True (Q .ret (l.SA (par A H nx)) (l.XH (par A H nx) k))) ∧
    (∀ k, k < l.cnt (par A H nx) → l.pre (par A H nx) k → l.brkP (par A H nx) k → gAll on l.n0 (l.gR (par A H nx) k) True (Q .normal (l.SA (par A H nx)) (l.XH (par A H nx) k)))

def IterOK (P : Program) (gf : FuncId) (it : List SV → Option (List Prop × Nat × (Nat → List SV))) : Prop := ∀ xs ps n f, it xs = some (ps, n, f) → AllP ps → Iter P gf xs n f

/-- Slots set one after the other. -/
theorem slots_fold {S : Nat → Prop} {w : World} {ρ : Names} : ∀ (ps : List Nat) (vs : List SV) (us : List Value) (A : SSlots) (t0 : Array Value), vs.length = us.length →
    (∀ (k : Nat) v u, vs[k]? = some v → us[k]? = some u → Rel S w ρ v.den u) → (∀ t v, t0[t]? = some v → Rel S w ρ (getA (denA A) t) v) →
    ∀ t v, ((ps.zip us).foldl (fun t p => t.setIfInBounds p.1 p.2) t0)[t]? = some v → Rel S w ρ (getA (denA (paramS ps vs A)) t) v := by
  intro ps
  induction ps with
  | nil => intro vs us A t0 _ _ h0 t v e; cases vs <;> exact h0 t v e
  | cons p ps ih =>
    intro vs us A t0 hl hr h0
    cases vs with
    | nil =>
      cases us with
      | nil => intro t v e; exact h0 t v e
      | cons u us => simp at hl
    | cons x vs =>
      cases us with
      | nil => simp at hl
      | cons u us =>
        refine ih vs us ((p, x) :: A) _ (by simpa using hl) (fun k v u' e1 e2 => hr (k + 1) v u' (by simpa using e1) (by simpa using e2)) (fun t v e => ?_)
        simp only [denA, List.map_cons, getA]
        rw [Array.getElem?_setIfInBounds] at e
        by_cases hp : p = t
        · subst hp
          rw [if_pos rfl] at e ⊢
          split at e
          · cases e; exact hr 0 x u rfl rfl
          · cases e
        · rw [if_neg hp] at e ⊢
          exact h0 t v e
theorem paramS_top {N : Nat} : ∀ (ps : List Nat) (vs : List SV) (A : SSlots), ps.all (fun p => Nat.blt p N) = true → (∀ t, N ≤ t → getA (denA A) t = .top) → ∀ t, N ≤ t → getA (denA (paramS ps vs A)) t = .top := by
  intro ps
  induction ps with
  | nil => intro vs A _ h; cases vs <;> exact h
  | cons p ps ih =>
    intro vs A hp h
    cases vs with
    | nil => exact h
    | cons v vs =>
      simp only [List.all_cons, Bool.and_eq_true] at hp
      refine ih vs _ hp.2 (fun t ht => ?_)
      simp only [denA, List.map_cons, getA]
      rw [if_neg (by have := blt_true hp.1; omega)]
      exact h t ht
theorem fold_size : ∀ (l : List (Nat × Value)) (t0 : Array Value), (l.foldl (fun t p => t.setIfInBounds p.1 p.2) t0).size = t0.size := by
  intro l
  induction l with
  | nil => intro t0; rfl
  | cons p l ih => intro t0; rw [List.foldl_cons, ih]; simp

theorem SV.low_slot {S S' : Nat → Prop} {w w' : World} {ρ ρ' : Names} {m : Nat} {A : SSlots} (hA : A.all (fun p => p.2.low m && true) = true) : True := trivial

end Go.Proofs.Ytkklmkogdogbkaa.Sep
