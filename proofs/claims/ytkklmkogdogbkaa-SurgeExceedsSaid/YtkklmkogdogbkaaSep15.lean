/-
  The small calculus, fifteenth part: into a function and out of it. No condition. (This text proves no statement by itself.)
-/
import Derived.Test.YtkklmkogdogbkaaSep14
namespace Go.Proofs.Ytkklmkogdogbkaa.Sep
open Go
set_option linter.unusedVariables false
set_option linter.unusedSimpArgs false

/-- The slots at a function's beginning. -/
def argsA : Nat → List AV → Slots
  | _, [] => []
  | k, x :: xs => (k, x) :: argsA (k + 1) xs
def idxH : Nat → List Blk → Blks
  | _, [] => []
  | k, x :: xs => (k, x) :: idxH (k + 1) xs

theorem getA_argsA {k : Nat} {xs : List AV} {t : Nat} : getA (argsA k xs) t = if k ≤ t then xs.getD (t - k) .top else .top := by
  induction xs generalizing k with
  | nil => simp [argsA, getA]
  | cons x xs ih =>
    simp only [argsA, getA, ih]
    by_cases h : k = t
    · subst h; simp
    · rw [if_neg h]
      by_cases h2 : k ≤ t
      · rw [if_pos h2, if_pos (by omega)]
        rw [show t - k = (t - (k + 1)) + 1 by omega]; simp
      · rw [if_neg h2, if_neg (by omega)]
theorem getH_idxH {k : Nat} {xs : List Blk} {t : Nat} : getH (idxH k xs) t = if k ≤ t then xs[t - k]? else none := by
  induction xs generalizing k with
  | nil => simp [idxH, getH]
  | cons x xs ih =>
    simp only [idxH, getH, ih]
    by_cases h : k = t
    · subst h; simp
    · rw [if_neg h]
      by_cases h2 : k ≤ t
      · rw [if_pos h2, if_pos (by omega)]
        rw [show t - k = (t - (k + 1)) + 1 by omega]; simp
      · rw [if_neg h2, if_neg (by omega)]

/-- The values of the result variables. -/
def resVC (P : Program) (A : Slots) (H : Blks) : List ResultVar → Option (Prop × List AV)
  | [] => some (True, [])
  | .tmp t :: rs => (resVC P A H rs).map fun q => (grd (getA A t) = true ∧ q.1, strip (getA A t) :: q.2)
  | .cell a T :: rs =>
    match absMem P (.load T (.tmp a)) 0 (opd (getA A)) (getH H) with
    | some out => (resVC P A H rs).map fun q => (out.cond ∧ q.1, out.val :: q.2)
    | none => none

def packR : List AV → AV
  | [x] => x
  | xs => .tup xs

mutual
def AV.idsLt (m : Nat) : AV → Bool
  | .lit _ => true
  | .vsl _ _ => true
  | .vptr _ _ _ _ => true
  | .ptr i _ => decide (i < m)
  | .rptr i _ _ _ => decide (i < m)
  | .vec i _ _ _ => decide (i < m)
  | .agg cs => AV.idsLtL m cs
  | .tup cs => AV.idsLtL m cs
  | .fn _ xs cs => AV.idsLtL m xs && AV.idsLtL m cs
  | _ => false
def AV.idsLtL (m : Nat) : List AV → Bool
  | [] => true
  | c :: cs => c.idsLt m && AV.idsLtL m cs
end

theorem idsLtL_get {m : Nat} {cs : List AV} (h : AV.idsLtL m cs = true) {k : Nat} {c : AV} (hk : cs[k]? = some c) : c.idsLt m = true := by
  induction cs generalizing k with
  | nil => simp at hk
  | cons x cs ih =>
    simp [AV.idsLtL] at h
    cases k with
    | zero => simp at hk; subst hk; exact h.1
    | succ k => simp at hk; exact ih h.2 hk

def below (m : Nat) (ρ : Names) : Names := fun i => if i < m then ρ i else none

theorem Rel.lt {S : Nat → Prop} {w : World} {ρ : Names} {x : AV} {v : Value} {m : Nat} (h : Rel S w ρ x v) (hf : x.idsLt m = true) : Rel S w (Sep.below m ρ) x v := by
  induction h with
  | lit v => exact .lit v
  | ptr h => simp [AV.idsLt] at hf; exact .ptr (by simp [Sep.below, hf, h])
  | rptr h => simp [AV.idsLt] at hf; exact .rptr (by simp [Sep.below, hf, h])
  | vec0 => exact .vec0
  | vec h hs hc hl => simp [AV.idsLt] at hf; exact .vec (by simp [Sep.below, hf, h]) hs hc hl
  | agg hl h ih => simp only [AV.idsLt] at hf; exact .agg hl (fun k c v h1 h2 => ih k c v h1 h2 (idsLtL_get hf h1))
  | tup hl h ih => simp only [AV.idsLt] at hf; exact .tup hl (fun k c v h1 h2 => ih k c v h1 h2 (idsLtL_get hf h1))
  | fn hl h hl' h' ih ih' => simp [AV.idsLt] at hf; exact .fn hl (fun k c v h1 h2 => ih k c v h1 h2 (idsLtL_get hf.1 h1)) hl' (fun k c v h1 h2 => ih' k c v h1 h2 (idsLtL_get hf.2 h1))
  | vslNil => exact .vslNil
  | vsl vs hc hS hz hv hr => exact .vsl vs hc hS hz hv hr
  | vptr vs hS hz hv hr => exact .vptr vs hS hz hv hr
  | _ => simp [AV.idsLt] at hf

def Blk.idsLt (m : Nat) : Blk → Bool
  | .cells cs => AV.idsLtL m cs
  | _ => true

theorem BlkRel.lt {S : Nat → Prop} {w : World} {ρ : Names} {o : Option Nat} {b : Blk} {m : Nat} (h : BlkRel S w ρ o b) (hf : b.idsLt m = true) : BlkRel S w (Sep.below m ρ) o b := by
  cases b with
  | dead => trivial
  | cells cs =>
    obtain ⟨n, vs, T, h1, h2, h3, h4⟩ := h
    exact ⟨n, vs, T, h1, h2, h3, fun k c v g1 g2 => (h4 k c v g1 g2).lt (idsLtL_get hf g1)⟩
  | row sz xs => exact h

section
variable {P : Program} {C : Ctx} {N : Nat} {ρ : Names} {S : Nat → Prop} {A : Slots} {H : Blks} {nx : Nat → Prop} {a : Act} {w : World}

theorem run_results {fn : Func} (hm : Rep C N ρ S (getA A) (getH H) nx a w) (ht : ∀ t, N ≤ t → getA A t = .top) {q : Prop × List AV} (hq : resVC P A H fn.results.toList = some q) (hc : q.1) :
    ∃ v, (results fn a.tmps).run P w = .ok v w ∧ Rel S w ρ (packR q.2) v := by
  have hr := opd_rel hm ht
  obtain ⟨g, hg, hg1, hg2⟩ : ∃ g : ResultVar → Sem Value, results fn a.tmps = (do let vs ← fn.results.mapM g; pure (if h : vs.size = 1 then vs[0] else .tuple vs)) ∧ (∀ t, g (.tmp t) = pure (a.tmps.getD t undef)) ∧ (∀ b t, g (.cell b t) = (do loadVar t (← asAddr (a.tmps.getD b undef)))) :=
    ⟨_, rfl, fun _ => rfl, fun _ _ => rfl⟩
  have key : ∀ (rs : List ResultVar) (q : Prop × List AV), resVC P A H rs = some q → q.1 → ∃ vs : List Value, (rs.mapM g).run P w = .ok vs w ∧ RelCs S w ρ q.2 vs.toArray := by
    intro rs
    induction rs with
    | nil => intro q hq _; simp [resVC] at hq; subst hq; exact ⟨[], rfl, rfl, fun k c v h => by simp at h⟩
    | cons x rs ih =>
      intro q hq hc
      have cons : ∀ {y : AV} {v : Value} {q' : Prop × List AV} {vs : List Value}, Rel S w ρ y v → RelCs S w ρ q'.2 vs.toArray → RelCs S w ρ (y :: q'.2) (v :: vs).toArray := fun hy hvs => by
        refine ⟨by simpa using hvs.1, fun k c u h1 h2 => ?_⟩
        cases k with
        | zero => simp at h1 h2; subst h1; subst h2; exact hy
        | succ k => simp at h1 h2; exact hvs.2 k c u h1 (by simpa using h2)
      cases x with
      | tmp t =>
        simp only [resVC, Option.map_eq_some_iff] at hq
        obtain ⟨q', hq', rfl⟩ := hq
        obtain ⟨vs, h1, h2⟩ := ih q' hq' hc.2
        have h0 := (hr (.tmp t)).strip hc.1
        exact ⟨_ :: vs, by simp only [List.mapM_cons, hg1, Sem.run_bind, Sem.run_pure, Result.andThen_ok, h1]; rfl, cons h0 h2⟩
      | cell b T =>
        simp only [resVC] at hq
        split at hq
        · rename_i out ho
          simp only [Option.map_eq_some_iff] at hq
          obtain ⟨q', hq', rfl⟩ := hq
          obtain ⟨vs, h1, h2⟩ := ih q' hq' hc.2
          obtain ⟨u, hu1, hu2⟩ : ∃ u, (do loadVar T (← asAddr (a.tmps.getD b undef)) : Sem Value).run P w = .ok u w ∧ Rel S w ρ out.val u := by
            obtain ⟨-, b', u, e, h3, h4⟩ := absLoad_sound (ev := a.eval) ho hc.1 hm.mem (hr (.tmp b))
            exact ⟨u, by simp only [Act.eval] at e; rw [e]; simp [asAddr, h3], h4⟩
          exact ⟨u :: vs, by simp only [List.mapM_cons, hg2]; rw [Sem.run_bind, hu1]; simp only [Result.andThen_ok, Sem.run_bind, h1, Sem.run_pure], cons hu2 h2⟩
        · cases hq
  obtain ⟨vs, h1, h2⟩ := key _ q hq hc
  have hrun : (results fn a.tmps).run P w = .ok (if h : vs.toArray.size = 1 then vs.toArray[0] else .tuple vs.toArray) w := by
    rw [hg, Array.mapM_eq_mapM_toList]
    simp only [Sem.run_bind, Sem.run_map, h1, Result.andThen_ok, Sem.run_pure]
  refine ⟨_, hrun, ?_⟩
  cases hq2 : q.2 with
  | nil =>
    rw [hq2] at h2
    have : vs = [] := List.eq_nil_of_length_eq_zero (by simpa using h2.1)
    subst this
    exact .tup h2.1 h2.2
  | cons x xs =>
    rw [hq2] at h2
    cases xs with
    | nil =>
      obtain ⟨v, rfl⟩ : ∃ v, vs = [v] := by
        have := h2.1
        cases vs with
        | nil => simp at this
        | cons v vs => cases vs with | nil => exact ⟨v, rfl⟩ | cons _ _ => simp at this
      simpa [packR] using h2.2 0 x v (by simp) (by simp)
    | cons y ys =>
      have hne : ¬ vs.toArray.size = 1 := by rw [h2.1]; simp
      rw [dif_neg hne]
      exact .tup h2.1 h2.2

theorem Mem.restrict {m : Nat} {Hs : List Blk} {H : Nat → Option Blk} (h : Mem C ρ S H nx w) (h0 : ∀ i, m ≤ i → C.ρ0 i = none) (hl : Hs.length = m) (hH : ∀ i, i < m → H i = Hs[i]? ∧ ∀ k, Hs[i]? = some k → k.idsLt m = true) :
    Mem C (Sep.below m ρ) S (Hs[·]?) (fun i => m ≤ i) w := by
  have hlt : ∀ i k, Hs[i]? = some k → i < m ∧ H i = some k := fun i k e => by
    have hi : i < m := by rw [← hl]; exact (List.getElem?_eq_some_iff.1 e).1
    exact ⟨hi, by rw [(hH i hi).1]; exact e⟩
  have hb : ∀ i b, Sep.below m ρ i = some b → ρ i = some b := fun i b e => by
    unfold Sep.below at e; split at e
    · exact e
    · cases e
  refine ⟨h.size, h.shape, h.old, fun i b e => ?_, h.s0, h.snew, h.sin, fun i b e => h.rin i b (hb i b e), fun i k b e hl' e' => h.own i k b (hlt i k e).2 hl' (hb i b e'), fun i j k l b e1 h1 e2 h2 r1 r2 => h.inj i j k l b (hlt i k e1).2 h1 (hlt j l e2).2 h2 (hb i b r1) (hb j b r2), fun i k e => ?_, fun i hi => ?_, h.keep⟩
  · have hi : i < m := by
      rcases Nat.lt_or_ge i m with hi | hi
      · exact hi
      · rw [h0 i hi] at e; cases e
    simp only [Sep.below, hi, if_true]; exact h.ent i b e
  · obtain ⟨hi, e'⟩ := hlt i k e
    have := (h.blk i k e').lt ((hH i hi).2 k e)
    simpa [Sep.below, hi] using this
  · exact ⟨List.getElem?_eq_none (by rw [hl]; exact hi), by simp [Sep.below, Nat.not_lt.2 hi]⟩

theorem leaves_marks {fn : Func} {tmps : Array Value} {R : Ending → World → Prop} (K : World → Prop) (hK : ∀ w, K w → ∃ v, (results fn tmps).run P w = .ok v w ∧ R (.returned v) w)
    (hstep : ∀ (w : World) (n : Nat), K w → (C.O n ∨ C.w0.heap.size ≤ n) → w.heap[n]? = some (.deferred (some [])) → K (w.putObj n (.deferred none))) :
    ∀ (ns : List Nat) (w : World), ns.Nodup → (∀ n ∈ ns, (C.O n ∨ C.w0.heap.size ≤ n) ∧ w.heap[n]? = some (.deferred (some []))) → K w → LeavesInM Fence.wide 0 P fn tmps R (ns.map fun n => { target := .collected n, args := #[] }) .returning w := by
  intro ns
  induction ns with
  | nil => intro w _ _ hw; exact hK w hw
  | cons n ns ih =>
    intro w hnd hns hw
    obtain ⟨h1, h2⟩ := hns n (by simp)
    refine ⟨by simp, .inl ⟨n, _, rfl, run_takeDeferred h2, ih _ (List.nodup_cons.1 hnd).2 (fun q hq => ?_) (hstep w n hw h1 h2)⟩⟩
    obtain ⟨g1, g2⟩ := hns q (by simp [hq])
    have hne : q ≠ n := fun e => (List.nodup_cons.1 hnd).1 (e ▸ hq)
    exact ⟨g1, (World.putObj_heap_other hne).trans g2⟩

end
end Go.Proofs.Ytkklmkogdogbkaa.Sep
