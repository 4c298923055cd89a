/-
  The small calculus, ninth part: an operation looks at its operands and at the blocks that it names, at nothing else. No condition. (This text proves no statement by itself.)
-/
import Derived.Test.YtkklmkogdogbkaaSep8
namespace Go.Proofs.Ytkklmkogdogbkaa.Sep
open Go
set_option linter.unusedVariables false
set_option linter.unusedSimpArgs false

section
variable {P : Program} {r r' : Operand → AV} {H H' : Nat → Option Blk}

theorem absPure_local {o : Op} {q : Prop × AV} (h : absPure P o r = some q) (hr : ∀ x ∈ o.operands, r' x = r x) : absPure P o r' = some q := by
  cases o <;> simp only [absPure, reduceCtorEq] at h ⊢
  case move x => rw [hr x (by simp [Op.operands])]; exact h
  case assign x => rw [hr x (by simp [Op.operands])]; exact h
  case pick c a b => rw [hr a (by simp [Op.operands]), hr b (by simp [Op.operands]), hr c (by simp [Op.operands])]; exact h
  case fieldAddr T x f => rw [hr x (by simp [Op.operands])]; exact h
  case nilCheck x => rw [hr x (by simp [Op.operands])]; exact h
  case binOp op T x y U => rw [hr x (by simp [Op.operands]), hr y (by simp [Op.operands])]; exact h
  case unOp op T x => rw [hr x (by simp [Op.operands])]; exact h
  case convert T U x => rw [hr x (by simp [Op.operands])]; exact h
  case makeFunc f first cap =>
    have h1 : ∀ x ∈ first, r' x = r x := fun x hx => hr x (by simp [Op.operands, hx])
    have h2 : ∀ x ∈ cap, r' x = r x := fun x hx => hr x (by simp [Op.operands, hx])
    rw [← h]
    have e1 : first.toList.map (fun x => strip (r' x)) = first.toList.map (fun x => strip (r x)) := List.map_congr_left (fun x hx => by rw [h1 x (by simpa using hx)])
    have e2 : cap.toList.map (fun x => strip (r' x)) = cap.toList.map (fun x => strip (r x)) := List.map_congr_left (fun x hx => by rw [h2 x (by simpa using hx)])
    rw [e1, e2]
    congr 2
    exact propext ⟨fun ⟨a, b⟩ => ⟨fun x hx => by rw [← h1 x hx]; exact a x hx, fun x hx => by rw [← h2 x hx]; exact b x hx⟩,
      fun ⟨a, b⟩ => ⟨fun x hx => by rw [h1 x hx]; exact a x hx, fun x hx => by rw [h2 x hx]; exact b x hx⟩⟩
  case extract x k => rw [hr x (by simp [Op.operands])]; exact h
  case field T x f => rw [hr x (by simp [Op.operands])]; exact h
  case index T x i => rw [hr x (by simp [Op.operands]), hr i (by simp [Op.operands])]; exact h
  case indexAddr T x i => rw [hr x (by simp [Op.operands]), hr i (by simp [Op.operands])]; exact h
  case call cl =>
    obtain ⟨callee, args, argTypes⟩ := cl
    cases callee with
    | value f => simp at h
    | invoke a b => simp at h
    | builtin b =>
      have hx : ∀ x ∈ args.toList, r' x = r x := fun x hx => hr x (by simp only [Op.operands, Call.operands]; simp; simpa using hx)
      cases b <;> simp only [reduceCtorEq] at h ⊢
      case len =>
        split at h
        · rename_i x T ha hT
          rw [ha] at hx
          simp only [hx x (by simp)]
          exact h
        · cases h
      case max =>
        split at h
        · rename_i x y ha
          rw [ha] at hx
          simp only [hx x (by simp), hx y (by simp)]
          exact h
        · rename_i x y z ha
          rw [ha] at hx
          simp only [hx x (by simp), hx y (by simp), hx z (by simp)]
          exact h
        · cases h
      case min =>
        split at h
        · rename_i x y ha
          rw [ha] at hx
          simp only [hx x (by simp), hx y (by simp)]
          exact h
        · rename_i x y z ha
          rw [ha] at hx
          simp only [hx x (by simp), hx y (by simp), hx z (by simp)]
          exact h
        · cases h

theorem absMem_local {o : Op} {id : Nat} {out : Out} (h : absMem P o id r H = some out) (hr : ∀ x ∈ o.operands, r' x = r x) (hH : ∀ i ∈ out.ri, H' i = H i) : absMem P o id r' H' = some out := by
  cases o <;> simp only [absMem, reduceCtorEq] at h ⊢
  case alloc T => exact h
  case box T x => rw [hr x (by simp [Op.operands])]; exact h
  case load T x =>
    rw [hr x (by simp [Op.operands])]
    split at h
    · rename_i t ht
      try simp only [ht]
      split at h
      · rename_i i off he
        try simp only [he]
        split at h <;> cases h
        rename_i cs hi
        simp only [hH i (by simp), hi]
      · rename_i i s n j he
        try simp only [he]
        split at h
        · rename_i sz xs hi
          split at h <;> cases h
          rename_i hs
          simp only [hH i (by simp), hi, hs, if_true]
        · cases h
      · rename_i s xs n j he
        try simp only [he]
        exact h
      · cases h
    · cases h
  case store T x y =>
    rw [hr x (by simp [Op.operands]), hr y (by simp [Op.operands])]
    split at h
    · rename_i t vs ht hv
      try simp only [ht, hv]
      split at h
      · rename_i i off he
        try simp only [he]
        split at h <;> cases h
        rename_i cs hi
        simp only [hH i (by simp), hi]
      · rename_i i s n j he
        try simp only [he]
        split at h
        · rename_i sz xs hi
          split at h <;> cases h
          rename_i hs
          simp only [hH i (by simp), hi, hs, if_true]
        · cases h
      · cases h
    · cases h

theorem contentOf_local {sz : Nat} {x : AV} {q : Prop × List (List AV) × List Nat} (h : contentOf sz H x = some q) (hH : ∀ i ∈ q.2.2, H' i = H i) : contentOf sz H' x = some q := by
  unfold contentOf at h ⊢
  split at h
  · exact h
  · exact h
  · rename_i j s lo n
    split at h
    · rename_i s' xs hj
      split at h <;> cases h
      rename_i hs
      simp only [hH j (by simp), hj, hs, and_self, if_true]
    · cases h
  · cases h

theorem sliceEnds_local {len : Nat} {lo hi : Option Operand} (hl : ∀ x, lo = some x → r' x = r x) (hh : ∀ x, hi = some x → r' x = r x) : sliceEnds r' len lo hi = sliceEnds r len lo hi := by
  unfold sliceEnds
  cases lo <;> cases hi <;> simp_all

theorem absMake_local {o : Op} {id : Nat} {out : Out} (h : absMake P o id r H = some out) (hr : ∀ x ∈ o.operands, r' x = r x) (hH : ∀ i ∈ out.ri, H' i = H i) : absMake P o id r' H' = some out := by
  cases o <;> simp only [absMake, reduceCtorEq] at h ⊢
  case build T parts =>
    have hp : ∀ p ∈ parts, r' p.2 = r p.2 := fun p hp => hr p.2 (by simp only [Op.operands]; simp; exact ⟨p.1, hp⟩)
    have e1 : parts.toList.map (fun p => (p.1, strip (r' p.2))) = parts.toList.map (fun p => (p.1, strip (r p.2))) := List.map_congr_left (fun p hx => by rw [hp p (by simpa using hx)])
    have e2 : (∀ p ∈ parts, grd (r' p.2) = true) = (∀ p ∈ parts, grd (r p.2) = true) := propext ⟨fun a p hx => by rw [← hp p hx]; exact a p hx, fun a p hx => by rw [hp p hx]; exact a p hx⟩
    rw [e1, e2]; exact h
  case buildSlice T len parts =>
    have hp : ∀ p ∈ parts, r' p.2 = r p.2 := fun p hp => hr p.2 (by simp only [Op.operands]; simp; exact ⟨p.1, hp⟩)
    have e1 : parts.toList.map (fun p => (p.1, strip (r' p.2))) = parts.toList.map (fun p => (p.1, strip (r p.2))) := List.map_congr_left (fun p hx => by rw [hp p (by simpa using hx)])
    have e2 : (∀ p ∈ parts, grd (r' p.2) = true) = (∀ p ∈ parts, grd (r p.2) = true) := propext ⟨fun a p hx => by rw [← hp p hx]; exact a p hx, fun a p hx => by rw [hp p hx]; exact a p hx⟩
    rw [e1, e2]; exact h
  case slice T x lo hi mx =>
    cases mx with
    | some m => cases h
    | none =>
    have h1 := hr x (by simp [Op.operands])
    have h2 : ∀ len, sliceEnds r' len lo hi = sliceEnds r len lo hi := fun len => sliceEnds_local (fun y hy => hr y (by subst hy; simp [Op.operands])) (fun y hy => hr y (by subst hy; simp [Op.operands]))
    simp only [h1, h2] at h ⊢
    exact h
  case call cl =>
    obtain ⟨callee, args, argTypes⟩ := cl
    cases callee with
    | value f => simp at h
    | invoke a b => simp at h
    | builtin b =>
      have hx : ∀ x ∈ args.toList, r' x = r x := fun x hx => hr x (by simp only [Op.operands, Call.operands]; simp; simpa using hx)
      cases b <;> simp only [reduceCtorEq] at h ⊢
      split at h
      · rename_i x y T U ha hT
        rw [ha] at hx
        simp only [hx x (by simp), hx y (by simp)]
        split at h
        · rename_i t u ht hu
          try simp only [ht, hu]
          split at h
          · rename_i hk
            try simp only [hk, and_self, if_true]
            split at h
            · rename_i e he
              try simp only [he]
              split at h
              · rename_i cy ys js hc
                split at h
                · rename_i he'
                  cases h
                  have := contentOf_local (H' := H') hc (fun i hi => hH i hi)
                  simp only [this]
                · rename_i i s n he'
                  split at h
                  · rename_i s' xs hi
                    split at h <;> cases h
                    rename_i hs
                    have := contentOf_local (H' := H') hc (fun i hi => hH i (by simp [hi]))
                    simp only [this, hH i (by simp), hi, hs, and_self, if_true]
                  · cases h
                · cases h
              · cases h
            · cases h
          · cases h
        · cases h
      · cases h

/-- The operations together. -/
def absOp (P : Program) (o : Op) (id : Nat) (r : Operand → AV) (H : Nat → Option Blk) : Option Out :=
  match absPure P o r with
  | some q => some { cond := q.1, val := q.2 }
  | none =>
    match absMem P o id r H with
    | some out => some out
    | none => absMake P o id r H

/-- A value that says less. -/
def AV.le (x y : AV) : Prop := ∀ (S : Nat → Prop) (w : World) (ρ : Names) (v : Value), Rel S w ρ x v → Rel S w ρ y v
def Blk.le (x y : Blk) : Prop := (y.live = true → x.live = true) ∧ ∀ (S : Nat → Prop) (w : World) (ρ : Names) (o : Option Nat), BlkRel S w ρ o x → BlkRel S w ρ o y
theorem AV.le.refl (x : AV) : x.le x := fun _ _ _ _ h => h
theorem Blk.le.refl (x : Blk) : x.le x := ⟨fun h => h, fun _ _ _ _ h => h⟩
def wrLe : List (Nat × Blk) → List (Nat × Blk) → Prop
  | [], [] => True
  | p :: ps, q :: qs => p.1 = q.1 ∧ p.2.le q.2 ∧ wrLe ps qs
  | _, _ => False
structure Out.le (x y : Out) : Prop where
  val : x.val.le y.val
  ri : y.ri = x.ri
  wr : wrLe x.wr y.wr
theorem wrLe.refl : ∀ (l : List (Nat × Blk)), wrLe l l
  | [] => trivial
  | p :: ps => ⟨rfl, Blk.le.refl _, wrLe.refl ps⟩

/-- Of two rows of blocks the second one says less. -/
def HLe (H H' : Nat → Option Blk) : Prop := ∀ i, (H i = none ∧ H' i = none) ∨ ∃ x y, H i = some x ∧ H' i = some y ∧ x.le y
theorem HLe.refl (H : Nat → Option Blk) : HLe H H := fun i => by
  cases h : H i with
  | none => exact .inl ⟨rfl, rfl⟩
  | some x => exact .inr ⟨x, x, rfl, rfl, .refl x⟩
theorem HLe.upd {H H' : Nat → Option Blk} (h : HLe H H') {i : Nat} {x y : Blk} (hxy : x.le y) : HLe (updH H i x) (updH H' i y) := fun j => by
  by_cases hj : j = i
  · subst hj; exact .inr ⟨x, y, by simp [updH], by simp [updH], hxy⟩
  · simpa [updH, hj] using h j
theorem HLe.wr : ∀ {ws ws' : List (Nat × Blk)} {H H' : Nat → Option Blk}, HLe H H' → wrLe ws ws' → HLe (ws.foldl (fun H p => updH H p.1 p.2) H) (ws'.foldl (fun H p => updH H p.1 p.2) H')
  | [], [], _, _, h, _ => h
  | p :: ps, q :: qs, _, _, h, hw => by
    obtain ⟨h1, h2, h3⟩ := hw
    simp only [List.foldl_cons, h1]
    exact HLe.wr (h.upd h2) h3
  | [], _ :: _, _, _, _, hw => hw.elim
  | _ :: _, [], _, _, _, hw => hw.elim
theorem Mem.le {C : Ctx} {ρ : Names} {S : Nat → Prop} {H H' : Nat → Option Blk} {nx : Nat → Prop} {w : World} (h : Mem C ρ S H nx w) (hl : HLe H H') : Mem C ρ S H' nx w := by
  have back : ∀ i y, H' i = some y → ∃ x, H i = some x ∧ x.le y := fun i y e => by
    rcases hl i with ⟨-, h2⟩ | ⟨x, y', h1, h2, h3⟩
    · rw [h2] at e; cases e
    · rw [h2] at e; cases e; exact ⟨x, h1, h3⟩
  refine ⟨h.size, h.shape, h.old, h.ent, h.s0, h.snew, h.sin, h.rin, fun i k b e hl' e' => ?_, fun i j k l b e1 h1 e2 h2 r1 r2 => ?_, fun i k e => ?_, fun i hi => ⟨?_, (h.free i hi).2⟩, h.keep⟩
  · obtain ⟨x, hx, hle⟩ := back i k e
    exact h.own i x b hx (hle.1 hl') e'
  · obtain ⟨x, hx, hle⟩ := back i k e1
    obtain ⟨y, hy, hle'⟩ := back j l e2
    exact h.inj i j x y b hx (hle.1 h1) hy (hle'.1 h2) r1 r2
  · obtain ⟨x, hx, hle⟩ := back i k e
    exact hle.2 _ _ _ _ (h.blk i x hx)
  · rcases hl i with ⟨-, h2⟩ | ⟨x, y', h1, -, -⟩
    · exact h2
    · rw [(h.free i hi).1] at h1; cases h1
theorem Good.le {C : Ctx} {ρ : Names} {S : Nat → Prop} {H : Nat → Option Blk} {nx : Nat → Prop} {w : World} {out out' : Out} {id : Nat} {r : Result Next} (h : Good C ρ S H nx w out id r) (hl : Out.le out out') : Good C ρ S H nx w out' id r := by
  obtain ⟨ρ', v, w', h1, h2, h3, h4, h5, h6⟩ := h
  exact ⟨ρ', v, w', h1, h2, h3, h4.le ((HLe.refl H).wr hl.wr), hl.val _ _ _ _ h5, h6⟩

/-- An operation may be taken so. -/
inductive Takes (P : Program) (o : Op) (id : Nat) (r : Operand → AV) (H : Nat → Option Blk) : Out → Prop
  | pure {c : Prop} {z : AV} (h : absPure P o r = some (c, z)) (hc : c) : Takes P o id r H { cond := c, val := z }
  | mem {out : Out} (h : absMem P o id r H = some out) (hc : out.cond) : Takes P o id r H out
  | make {out : Out} (h : absMake P o id r H = some out) (hc : out.cond) : Takes P o id r H out
  | weak {out out' : Out} (h : Takes P o id r H out) (hl : out.le out') : Takes P o id r H out'

theorem Takes.of {o : Op} {id : Nat} {out : Out} (h : absOp P o id r H = some out) (hc : out.cond) : Takes P o id r H out := by
  unfold absOp at h
  split at h
  · rename_i q hq
    cases h
    exact .pure (c := q.1) (z := q.2) hq hc
  · split at h
    · rename_i out' hm
      cases h
      exact .mem hm hc
    · exact .make h hc

theorem Takes.local {o : Op} {id : Nat} {out : Out} (h : Takes P o id r H out) (hr : ∀ x ∈ o.operands, r' x = r x) (hH : ∀ i ∈ out.ri, H' i = H i) : Takes P o id r' H' out := by
  induction h with
  | pure h hc => exact .pure (absPure_local h hr) hc
  | mem h hc => exact .mem (absMem_local h hr hH) hc
  | make h hc => exact .make (absMake_local h hr hH) hc
  | weak h hl ih => exact .weak (ih (fun i hi => hH i (by rw [hl.ri]; exact hi))) hl

theorem Takes.good {C : Ctx} {ρ : Names} {S : Nat → Prop} {nx : Nat → Prop} {w : World} {ev : Operand → Value} {o : Oper} {id : Nat} {out : Out} (h : Takes P o.op id r H out) (hm : Mem C ρ S H nx w) (hid : nx id) (hr : ∀ x, Rel S w ρ (r x) (ev x)) :
    Good C ρ S H nx w out id ((execOp ev o).run P w) := by
  induction h with
  | weak h hl ih => exact ih.le hl
  | pure h hc =>
    obtain ⟨q, hq, hrel⟩ := absPure_sound h hc hr
    exact Good.pure hm hq hrel rfl
  | mem h hc => exact absMem_sound h hc hm hid hr
  | make h hc => exact absMake_sound h hc hm hid hr
end
end Go.Proofs.Ytkklmkogdogbkaa.Sep
