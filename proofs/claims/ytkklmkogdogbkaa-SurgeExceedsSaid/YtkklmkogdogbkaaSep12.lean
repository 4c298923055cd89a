/-
  The small calculus, twelfth part: a region, in whatever order its operations come. No condition. (This text proves no statement by itself.)
-/
import Derived.Test.YtkklmkogdogbkaaSep11
namespace Go.Proofs.Ytkklmkogdogbkaa.Sep
open Go
set_option linter.unusedVariables false
set_option linter.unusedSimpArgs false

def applyW (H : Nat → Option Blk) (wr : List (Nat × Blk)) : Nat → Option Blk := wr.foldl (fun H p => updH H p.1 p.2) H

theorem applyW_out {wr : List (Nat × Blk)} {H : Nat → Option Blk} {i : Nat} (h : ∀ p ∈ wr, p.1 ≠ i) : applyW H wr i = H i := by
  unfold applyW
  induction wr generalizing H with
  | nil => rfl
  | cons p wr ih =>
    rw [List.foldl_cons, ih (fun q hq => h q (by simp [hq]))]
    exact updH_ne (fun e => h p (by simp) e.symm)

theorem applyW_congr {wr : List (Nat × Blk)} {H H' : Nat → Option Blk} {i : Nat} (h : (∃ p ∈ wr, p.1 = i) ∨ H i = H' i) : applyW H wr i = applyW H' wr i := by
  unfold applyW
  induction wr generalizing H H' with
  | nil => rcases h with ⟨p, hp, _⟩ | h; · cases hp
           · exact h
  | cons p wr ih =>
    rw [List.foldl_cons, List.foldl_cons]
    apply ih
    by_cases hi : p.1 = i
    · exact .inr (by simp [updH, hi])
    · rcases h with ⟨q, hq, e⟩ | h
      · rcases List.mem_cons.1 hq with rfl | hq
        · exact absurd e hi
        · exact .inl ⟨q, hq, e⟩
      · exact .inr (by simp [updH, fun e : i = p.1 => hi e.symm, h])

section
variable (ops : Array Oper) (outs : Nat → Out) (A0 : Nat → AV) (H0 : Nat → Option Blk)

/-- The slots behind the first k operations, those of I alone carried out. -/
def AI (I : Nat → Bool) : Nat → Nat → AV
  | 0 => A0
  | k + 1 => if I k then updS (AI I k) ((ops[k]?).bind (·.dst)) (outs k).val else AI I k
def HI (I : Nat → Bool) : Nat → Nat → Option Blk
  | 0 => H0
  | k + 1 => if I k then applyW (HI I k) (outs k).wr else HI I k

variable {ops outs A0 H0}

theorem AI_agree {I J : Nat → Bool} {t : Nat} : ∀ {n : Nat}, (∀ i, i < n → (ops[i]?).bind (·.dst) = some t → I i = J i) → AI ops outs A0 I n t = AI ops outs A0 J n t := by
  intro n
  induction n with
  | zero => intro _; rfl
  | succ n ih =>
    intro h
    have ih' := ih (fun i hi => h i (by omega))
    have key : ∀ K : Nat → Bool, AI ops outs A0 K (n + 1) t = if (ops[n]?).bind (·.dst) = some t then (if K n then (outs n).val else AI ops outs A0 K n t) else AI ops outs A0 K n t := fun K => by
      simp only [AI]
      cases hK : K n
      · simp
      · simp [updS]
    rw [key I, key J]
    by_cases hd : (ops[n]?).bind (·.dst) = some t
    · rw [if_pos hd, if_pos hd, h n (by omega) hd, ih']
    · rw [if_neg hd, if_neg hd, ih']

theorem HI_agree {I J : Nat → Bool} {x : Nat} : ∀ {n : Nat}, (∀ i, i < n → (∃ p ∈ (outs i).wr, p.1 = x) → I i = J i) → HI outs H0 I n x = HI outs H0 J n x := by
  intro n
  induction n with
  | zero => intro _; rfl
  | succ n ih =>
    intro h
    have ih' := ih (fun i hi => h i (by omega))
    simp only [HI]
    by_cases hd : ∃ p ∈ (outs n).wr, p.1 = x
    · rw [h n (by omega) hd]
      cases J n
      · simpa using ih'
      · simp only [if_true]; exact applyW_congr (.inl hd)
    · have ho : ∀ H : Nat → Option Blk, applyW H (outs n).wr x = H x := fun H => applyW_out (fun p hp e => hd ⟨p, hp, e⟩)
      cases I n <;> cases J n <;> simp [ho, ih']

theorem AI_cut {I : Nat → Bool} {m : Nat} {t : Nat} : ∀ {n : Nat}, m ≤ n → (∀ i, m ≤ i → i < n → (ops[i]?).bind (·.dst) = some t → I i = false) → AI ops outs A0 I n t = AI ops outs A0 I m t := by
  intro n
  induction n with
  | zero => intro hm _; rw [show m = 0 by omega]
  | succ n ih =>
    intro hm h
    rcases Nat.lt_or_ge n m with hlt | hge
    · rw [show m = n + 1 by omega]
    · have ih' := ih hge (fun i h1 h2 => h i h1 (by omega))
      simp only [AI]
      cases hI : I n
      · simpa using ih'
      · simp only [if_true, updS]
        rw [if_neg (fun e => by have := h n hge (by omega) e; rw [hI] at this; cases this)]
        exact ih'

theorem HI_cut {I : Nat → Bool} {m : Nat} {x : Nat} : ∀ {n : Nat}, m ≤ n → (∀ i, m ≤ i → i < n → (∃ p ∈ (outs i).wr, p.1 = x) → I i = false) → HI outs H0 I n x = HI outs H0 I m x := by
  intro n
  induction n with
  | zero => intro hm _; rw [show m = 0 by omega]
  | succ n ih =>
    intro hm h
    rcases Nat.lt_or_ge n m with hlt | hge
    · rw [show m = n + 1 by omega]
    · have ih' := ih hge (fun i h1 h2 => h i h1 (by omega))
      simp only [HI]
      cases hI : I n
      · simpa using ih'
      · simp only [if_true]
        rw [applyW_out (fun p hp e => by have := h n hge (by omega) ⟨p, hp, e⟩; rw [hI] at this; cases this)]
        exact ih'
end

/-- Which operations must have come before: bit i of the k-th number. -/
theorem before_get (ops : Array Oper) (k : Nat) (hk : k < ops.size) : ∀ i, ((Region.before ops).getD k 0).testBit i = true → (∃ o, ops[k]? = some o ∧ ∃ e ∈ o.after, Region.binds .any e = true ∧ (e.on = i ∨ ((Region.before ops).getD e.on 0).testBit i = true ∧ e.on < k)) := by
  have gen : ∀ (l : List Oper) (acc : Array Nat), ∃ tail : List Nat, tail.length = l.length ∧ (l.foldl (fun acc o => acc.push (o.after.foldl (fun s e => if Region.binds .any e then s ||| 2 ^ e.on ||| acc.getD e.on 0 else s) 0)) acc).toList = acc.toList ++ tail ∧
      ∀ (q : Nat) o, l[q]? = some o → ∃ pre : Array Nat, pre.toList = acc.toList ++ tail.take q ∧ tail[q]? = some (o.after.foldl (fun s e => if Region.binds .any e then s ||| 2 ^ e.on ||| pre.getD e.on 0 else s) 0) := by
    intro l
    induction l with
    | nil => intro acc; exact ⟨[], rfl, by simp, fun q o h => by simp at h⟩
    | cons o l ih =>
      intro acc
      obtain ⟨tail, h1, h2, h3⟩ := ih (acc.push (o.after.foldl (fun s e => if Region.binds .any e then s ||| 2 ^ e.on ||| acc.getD e.on 0 else s) 0))
      refine ⟨_ :: tail, by simp [h1], by rw [List.foldl_cons, h2]; simp; rfl, fun q o' hq => ?_⟩
      cases q with
      | zero => simp at hq; subst hq; exact ⟨acc, by simp, by simp⟩
      | succ q =>
        simp at hq
        obtain ⟨pre, g1, g2⟩ := h3 q o' hq
        exact ⟨pre, by rw [g1]; simp, by simpa using g2⟩
  obtain ⟨tail, h1, h2, h3⟩ := gen ops.toList #[]
  intro i hi
  have hbef : (Region.before ops).toList = tail := by
    unfold Region.before
    rw [← Array.foldl_toList]
    simpa using h2
  have ho : ops.toList[k]? = some ops[k] := by simp [hk]
  obtain ⟨pre, g1, g2⟩ := h3 k ops[k] ho
  have hgk : (Region.before ops).getD k 0 = ops[k].after.foldl (fun s e => if Region.binds .any e then s ||| 2 ^ e.on ||| pre.getD e.on 0 else s) 0 := by
    have : (Region.before ops)[k]? = some (ops[k].after.foldl (fun s e => if Region.binds .any e then s ||| 2 ^ e.on ||| pre.getD e.on 0 else s) 0) := by
      rw [← Array.getElem?_toList, hbef]; exact g2
    simp [Array.getD_eq_getD_getElem?, this]
  rw [hgk] at hi
  have fold : ∀ (es : List Edge) (s : Nat), (es.foldl (fun s e => if Region.binds .any e then s ||| 2 ^ e.on ||| pre.getD e.on 0 else s) s).testBit i = true → s.testBit i = true ∨ ∃ e ∈ es, Region.binds .any e = true ∧ (e.on = i ∨ (pre.getD e.on 0).testBit i = true) := by
    intro es
    induction es with
    | nil => intro s h; exact .inl h
    | cons e es ih =>
      intro s h
      rw [List.foldl_cons] at h
      rcases ih _ h with h | ⟨e', he', hb, hr⟩
      · by_cases hb : Region.binds .any e = true
        · rw [if_pos hb] at h
          simp only [Nat.testBit_or, Bool.or_eq_true, Nat.testBit_two_pow, decide_eq_true_eq] at h
          rcases h with (h | h) | h
          · exact .inl h
          · exact .inr ⟨e, by simp, hb, .inl h⟩
          · exact .inr ⟨e, by simp, hb, .inr h⟩
        · rw [if_neg hb] at h; exact .inl h
      · exact .inr ⟨e', by simp [he'], hb, hr⟩
  rw [← Array.foldl_toList] at hi
  rcases fold _ _ hi with h | ⟨e, he, hb, hr⟩
  · simp at h
  · refine ⟨ops[k], by simp [hk], e, by simpa using he, hb, hr.imp id (fun h => ?_)⟩
    have hpl : pre.toList.length = k := by rw [g1]; simp [h1]; omega
    by_cases hek : e.on < k
    · refine ⟨?_, hek⟩
      have : pre[e.on]? = (Region.before ops)[e.on]? := by
        rw [← Array.getElem?_toList, ← Array.getElem?_toList, g1, hbef, List.getElem?_append_right (by simp), List.getElem?_take]
        simp [hek]
      rw [Array.getD_eq_getD_getElem?, ← this, ← Array.getD_eq_getD_getElem?]
      exact h
    · have : pre.getD e.on 0 = 0 := by
        have : pre.size = k := by simpa using hpl
        rw [Array.getD_eq_getD_getElem?, Array.getElem?_eq_none (by omega)]; rfl
      rw [this] at h; simp at h

/-- What has come is closed under what must come before. -/
theorem before_listed {ops : Array Oper} {listed : Array Bool} (hcl : ∀ j o, ops[j]? = some o → listed.getD j false = true → ∀ e ∈ o.after, Region.binds .any e = true → listed.getD e.on false = true) :
    ∀ (k : Nat) (i : Nat) o, ops[k]? = some o → ((Region.before ops).getD k 0).testBit i = true → (∀ e ∈ o.after, Region.binds .any e = true → listed.getD e.on false = true) → listed.getD i false = true := by
  intro k
  induction k using Nat.strongRecOn with
  | _ k ih =>
    intro i o ho hb hall
    obtain ⟨o', ho', e, he, hbe, hr⟩ := before_get ops k (Array.getElem?_eq_some_iff.1 ho).1 i hb
    rw [ho] at ho'; cases ho'
    have hl := hall e he hbe
    rcases hr with rfl | ⟨h1, h2⟩
    · exact hl
    · have hlt : e.on < ops.size := by have := (Array.getElem?_eq_some_iff.1 ho).1; omega
      exact ih e.on h2 i ops[e.on] (by simp [hlt]) h1 (fun e' he' hb' => hcl e.on ops[e.on] (by simp [hlt]) hl e' he' hb')

end Go.Proofs.Ytkklmkogdogbkaa.Sep
