/-
  The small calculus, thirtieth part: calls that are handed blocks of our own, in symbolic values. No condition. (This text proves no statement by itself.)
-/
import Derived.Test.YtkklmkogdogbkaaKSep17
import Derived.Test.YtkklmkogdogbkaaKMod12

namespace Go.Proofs.Ytkklmkogdogbkaa.Sep
open Go
set_option linter.unusedVariables false
set_option linter.unusedSimpArgs false

mutual
def SV.ren (σ : Nat → Nat) : SV → SV
  | .ptr i off => .ptr (σ i) off
  | .rptr i sz n j => .rptr (σ i) sz n j
  | .vec i sz lo len => .vec (σ i) sz lo len
  | .agg cs => .agg (SV.renL σ cs)
  | .tup cs => .tup (SV.renL σ cs)
  | .fn f xs cs => .fn f (SV.renL σ xs) (SV.renL σ cs)
  | .when g x => .when g (x.ren σ)
  | .top => .top
  | .lit v => .lit v
  | .int k n => .int k n
  | .bool b => .bool b
  | .sl sz n f => .sl sz n f
  | .sptr sz n f k j => .sptr sz n f k j
def SV.renL (σ : Nat → Nat) : List SV → List SV
  | [] => []
  | c :: cs => c.ren σ :: SV.renL σ cs
end
mutual
theorem ren_den (σ : Nat → Nat) : ∀ x : SV, (x.ren σ).den = x.den.ren σ
  | .ptr .. | .rptr .. | .vec .. | .top | .lit _ | .int .. | .bool _ | .sl .. | .sptr .. => by simp [SV.ren, SV.den, AV.ren]
  | .agg cs => by simp [SV.ren, SV.den, AV.ren, svRenL_den σ cs]
  | .tup cs => by simp [SV.ren, SV.den, AV.ren, svRenL_den σ cs]
  | .fn f xs cs => by simp [SV.ren, SV.den, AV.ren, svRenL_den σ xs, svRenL_den σ cs]
  | .when g x => by simp [SV.ren, SV.den, AV.ren, ren_den σ x]
theorem svRenL_den (σ : Nat → Nat) : ∀ xs : List SV, SV.denL (SV.renL σ xs) = AV.renL σ (SV.denL xs)
  | [] => by simp [SV.renL, SV.denL, AV.renL]
  | x :: xs => by simp [SV.renL, SV.denL, AV.renL, ren_den σ x, svRenL_den σ xs]
end
mutual
def SV.ids : SV → List Nat
  | .ptr i _ => [i]
  | .rptr i _ _ _ => [i]
  | .vec i _ _ _ => [i]
  | .agg cs => SV.idsL cs
  | .tup cs => SV.idsL cs
  | .fn _ xs cs => SV.idsL xs ++ SV.idsL cs
  | .when _ x => x.ids
  | _ => []
def SV.idsL : List SV → List Nat
  | [] => []
  | c :: cs => c.ids ++ SV.idsL cs
end
mutual
theorem ren_back {σ τ : Nat → Nat} : ∀ x : SV, (∀ i ∈ x.ids, σ (τ i) = i) → (x.ren τ).ren σ = x
  | .ptr i _, h | .rptr i _ _ _, h | .vec i _ _ _, h => by simp [SV.ren, SV.ids] at h ⊢; exact h
  | .top, _ | .lit _, _ | .int .., _ | .bool _, _ | .sl .., _ | .sptr .., _ => by simp [SV.ren]
  | .agg cs, h => by simp only [SV.ren, renL_back cs (fun i hi => h i (by simpa [SV.ids] using hi))]
  | .tup cs, h => by simp only [SV.ren, renL_back cs (fun i hi => h i (by simpa [SV.ids] using hi))]
  | .fn f xs cs, h => by simp only [SV.ren, renL_back xs (fun i hi => h i (by simp [SV.ids, hi])), renL_back cs (fun i hi => h i (by simp [SV.ids, hi]))]
  | .when g x, h => by simp only [SV.ren, ren_back x (fun i hi => h i (by simpa [SV.ids] using hi))]
theorem renL_back {σ τ : Nat → Nat} : ∀ xs : List SV, (∀ i ∈ SV.idsL xs, σ (τ i) = i) → SV.renL σ (SV.renL τ xs) = xs
  | [], _ => by simp [SV.renL]
  | x :: xs, h => by simp only [SV.renL, ren_back x (fun i hi => h i (by simp [SV.idsL, hi])), renL_back xs (fun i hi => h i (by simp [SV.idsL, hi]))]
end
def SBlk.ren (σ : Nat → Nat) : SBlk → SBlk
  | .cells cs => .cells (SV.renL σ cs)
  | .dead => .dead
  | .row sz n f => .row sz n f
def SBlk.ids : SBlk → List Nat
  | .cells cs => SV.idsL cs
  | _ => []
def SBlk.live : SBlk → Bool
  | .dead => false
  | _ => true
def SBlk.low (m : Nat) : SBlk → Bool
  | .cells cs => SV.lowL m cs
  | _ => true
theorem SBlk.ren_den (σ : Nat → Nat) (b : SBlk) : (b.ren σ).den = b.den.ren σ := by cases b <;> simp [SBlk.ren, SBlk.den, Blk.ren, svRenL_den]
theorem SBlk.ren_back {σ τ : Nat → Nat} (b : SBlk) (h : ∀ i ∈ b.ids, σ (τ i) = i) : (b.ren τ).ren σ = b := by
  cases b with
  | cells cs => simp only [SBlk.ren, renL_back cs h]
  | dead => rfl
  | row sz n f => rfl
theorem SBlk.live_den (b : SBlk) : b.den.live = b.live := by cases b <;> rfl
theorem SBlk.low_den {m : Nat} {b : SBlk} (h : b.low m = true) : b.den.idsLt m = true := by
  cases b with
  | cells cs => simp only [SBlk.den, Blk.idsLt]; exact lowL_den cs h
  | dead => rfl
  | row sz n f => rfl

def inL (i : Nat) : List Nat → Bool
  | [] => false
  | j :: js => match Nat.beq j i with
    | true => true
    | false => inL i js
theorem inL_mem {i : Nat} : ∀ {js : List Nat}, inL i js = true → i ∈ js
  | j :: js, h => by
    unfold inL at h
    split at h
    · rename_i e; have := beq_true e; subst this; simp
    · exact List.mem_cons_of_mem _ (inL_mem h)
theorem inL_not {i : Nat} : ∀ {js : List Nat}, inL i js = false → i ∉ js
  | [], _ => by simp
  | j :: js, h => by
    unfold inL at h
    split at h
    · cases h
    · rename_i e
      have := beq_false e
      simp only [List.mem_cons, not_or]
      exact ⟨fun e' => this e'.symm, inL_not h⟩
def allIn (is : List Nat) : List Nat → Bool
  | [] => true
  | j :: js => match inL j is with
    | true => allIn is js
    | false => false
theorem allIn_mem {is : List Nat} : ∀ {js : List Nat}, allIn is js = true → ∀ j ∈ js, j ∈ is
  | j :: js, h, i, hi => by
    unfold allIn at h
    split at h
    · rename_i e
      rcases List.mem_cons.1 hi with rfl | hi
      · exact inL_mem e
      · exact allIn_mem h i hi
    · cases h
def noneIn (is : List Nat) : List Nat → Bool
  | [] => true
  | j :: js => match inL j is with
    | true => false
    | false => noneIn is js
theorem noneIn_mem {is : List Nat} : ∀ {js : List Nat}, noneIn is js = true → ∀ j ∈ js, j ∉ is
  | j :: js, h, i, hi => by
    unfold noneIn at h
    split at h
    · cases h
    · rename_i e
      rcases List.mem_cons.1 hi with rfl | hi
      · exact inL_not e
      · exact noneIn_mem h i hi
def nodupB : List Nat → Bool
  | [] => true
  | j :: js => match inL j js with
    | true => false
    | false => nodupB js
theorem nodupB_ok : ∀ {js : List Nat}, nodupB js = true → js.Nodup
  | [], _ => List.nodup_nil
  | j :: js, h => by
    unfold nodupB at h
    split at h
    · cases h
    · rename_i e; exact List.nodup_cons.2 ⟨inL_not e, nodupB_ok h⟩
def posOf : List Nat → Nat → Nat
  | [], _ => 0
  | j :: js, i => match Nat.beq j i with
    | true => 0
    | false => posOf js i + 1
theorem posOf_get : ∀ {is : List Nat} {i : Nat}, i ∈ is → is[posOf is i]? = some i
  | j :: js, i, h => by
    unfold posOf
    split
    · rename_i e; have := beq_true e; subst this; rfl
    · rename_i e
      have := beq_false e
      rcases List.mem_cons.1 h with h | h
      · exact absurd h.symm this
      · simpa using posOf_get h
theorem sgm_posOf {is : List Nat} {id i : Nat} (h : i ∈ is) : sgm is id (posOf is i) = i := by
  unfold sgm
  rw [List.getD_eq_getElem?_getD, posOf_get h]; rfl
def addNew (is : List Nat) : List Nat → List Nat
  | [] => is
  | j :: js => match inL j is with
    | true => addNew is js
    | false => addNew (is ++ [j]) js
def idsIn (H : Nat → Option SBlk) : List Nat → List Nat
  | [] => []
  | i :: is => match H i with
    | some b => b.ids ++ idsIn H is
    | none => idsIn H is
def closeIds (H : Nat → Option SBlk) : Nat → List Nat → List Nat
  | 0, is => is
  | n + 1, is => closeIds H n (addNew is (idsIn H is))
/-- The blocks that are handed on, under the names of whoever is called. -/
def blocksOf (H : Nat → Option SBlk) (is : List Nat) : List Nat → Option (List SBlk)
  | [] => some []
  | i :: js => match H i with
    | some b => match b.live && (allIn is b.ids && (b.ren (posOf is)).low is.length) with
      | true => match blocksOf H is js with
        | some bs => some (b.ren (posOf is) :: bs)
        | none => none
      | false => none
    | none => none
theorem blocksOf_ok {H : Nat → Option SBlk} {is : List Nat} (id : Nat) : ∀ {js : List Nat} {bs : List SBlk}, blocksOf H is js = some bs → js.length = bs.length ∧ ∀ (j i : Nat) (b : SBlk), js[j]? = some i → bs[j]? = some b → H i = some (b.ren (sgm is id)) ∧ b.live = true ∧ b.low is.length = true
  | [], bs, h => by simp only [blocksOf, Option.some.injEq] at h; subst h; exact ⟨rfl, fun j i b e => by simp at e⟩
  | i :: js, bs, h => by
    unfold blocksOf at h
    split at h
    · rename_i b hb
      split at h
      · rename_i hc
        simp only [Bool.and_eq_true] at hc
        split at h
        · rename_i cs hcs
          cases h
          obtain ⟨h1, h2⟩ := blocksOf_ok id hcs
          refine ⟨by simp [h1], fun j i' b' e e' => ?_⟩
          cases j with
          | zero =>
            simp at e e'
            subst e; subst e'
            have hback := SBlk.ren_back (σ := sgm is id) (τ := posOf is) b (fun i hi => sgm_posOf (allIn_mem hc.2.1 i hi))
            exact ⟨by rw [hback]; exact hb, by have := hc.1; cases b <;> first | exact this | rfl, hc.2.2⟩
          | succ j => exact h2 j i' b' (by simpa using e) (by simpa using e')
        · cases h
      · cases h
    · cases h

/-- Values handed on, with the blocks that they point to; slices are given up to be read. -/
def coeV1 (H : Nat → Option SBlk) : SV → Option (List Prop × List Nat × SV)
  | .ptr i off => some ([], [], .ptr i off)
  | .rptr i sz n j => some ([], [], .rptr i sz n j)
  | x => coe1 H x
def coeV2 (H : Nat → Option SBlk) : SV → Option (List Prop × List Nat × SV)
  | .agg cs => (coeRow (coeV1 H) cs).map fun q => (q.1, q.2.1, .agg q.2.2)
  | .fn f xs cs =>
    match coeRow (coeV1 H) xs, coeRow (coeV1 H) cs with
    | some (ps, Z, ys), some (qs, Z', ds) => some (ps ++ qs, Z ++ Z', .fn f ys ds)
    | _, _ => none
  | x => coeV1 H x
def CoeOK2 (H : Nat → Option SBlk) (g : SV → Option (List Prop × List Nat × SV)) : Prop := ∀ x ps Z y, g x = some (ps, Z, y) → AllP ps → Coe (denH H) Z x.den y.den ∧ ∀ i ∈ Z, ∃ k, H i = some k ∧ k.den.live = true
theorem coeV1_ok (H : Nat → Option SBlk) : CoeOK2 H (coeV1 H) := by
  intro x ps Z y h hp
  unfold coeV1 at h
  split at h
  · cases h; exact ⟨.refl, fun i hi => by cases hi⟩
  · cases h; exact ⟨.refl, fun i hi => by cases hi⟩
  · obtain ⟨h1, -, h3⟩ := coe1_ok H _ _ _ _ h hp
    exact ⟨h1, h3⟩
theorem coeRow_ok2 {H : Nat → Option SBlk} {g : SV → Option (List Prop × List Nat × SV)} (hg : CoeOK2 H g) : ∀ (xs : List SV) (ps : List Prop) (Z : List Nat) (ys : List SV), coeRow g xs = some (ps, Z, ys) → AllP ps →
    CoeL (denH H) Z (SV.denL xs) (SV.denL ys) ∧ ∀ i ∈ Z, ∃ k, H i = some k ∧ k.den.live = true := by
  intro xs
  induction xs with
  | nil => intro ps Z ys h _; simp only [coeRow, Option.some.injEq, Prod.mk.injEq] at h; obtain ⟨rfl, rfl, rfl⟩ := h; exact ⟨trivial, fun i hi => by cases hi⟩
  | cons x xs ih =>
    intro ps Z ys h hp
    simp only [coeRow] at h
    split at h
    · rename_i ps1 Z1 y h1
      split at h
      · rename_i ps2 Z2 ys' h2
        simp only [Option.some.injEq, Prod.mk.injEq] at h
        obtain ⟨rfl, rfl, rfl⟩ := h
        obtain ⟨hp1, hp2⟩ := AllP.app.1 hp
        obtain ⟨a1, a3⟩ := hg _ _ _ _ h1 hp1
        obtain ⟨b1, b3⟩ := ih _ _ _ h2 hp2
        refine ⟨⟨a1.wide (fun i hi => by simp [hi]), b1.wide (fun i hi => by simp [hi])⟩, fun i hi => ?_⟩
        rcases List.mem_append.1 hi with hi | hi
        · exact a3 i hi
        · exact b3 i hi
      · cases h
    · cases h
theorem coeV2_ok (H : Nat → Option SBlk) : CoeOK2 H (coeV2 H) := by
  intro x ps Z y h hp
  unfold coeV2 at h
  split at h
  · simp only [Option.map_eq_some_iff, Prod.mk.injEq] at h
    obtain ⟨⟨ps', Z', ys⟩, h1, rfl, rfl, rfl⟩ := h
    obtain ⟨a1, a3⟩ := coeRow_ok2 (coeV1_ok H) _ _ _ _ h1 hp
    obtain ⟨b1, b2⟩ := a1.get
    simp only [SV.den]
    exact ⟨.agg b1 b2, a3⟩
  · split at h
    · rename_i ps1 Z1 ys1 ps2 Z2 ys2 h1 h2
      cases h
      obtain ⟨hp1, hp2⟩ := AllP.app.1 hp
      obtain ⟨a1, a3⟩ := coeRow_ok2 (coeV1_ok H) _ _ _ _ h1 hp1
      obtain ⟨c1, c3⟩ := coeRow_ok2 (coeV1_ok H) _ _ _ _ h2 hp2
      obtain ⟨b1, b2⟩ := (CoeL.wide a1 (Z' := Z1 ++ Z2) (fun i hi => by simp [hi])).get
      obtain ⟨d1, d2⟩ := (CoeL.wide c1 (Z' := Z1 ++ Z2) (fun i hi => by simp [hi])).get
      simp only [SV.den]
      refine ⟨.fn b1 b2 d1 d2, fun i hi => ?_⟩
      rcases List.mem_append.1 hi with hi | hi
      · exact a3 i hi
      · exact c3 i hi
    · cases h
  · exact coeV1_ok H _ _ _ _ h hp

def pairsOf (is : List Nat) (id : Nat) : Nat → List SBlk → List (Nat × SBlk)
  | _, [] => []
  | j, b :: bs => (sgm is id j, b.ren (sgm is id)) :: pairsOf is id (j + 1) bs
theorem pairsOf_den (is : List Nat) (id : Nat) : ∀ (j : Nat) (bs : List SBlk), ((pairsOf is id j bs).map fun p => (p.1, p.2.den)) = (List.range bs.length).map fun k => (sgm is id (j + k), ((bs.map SBlk.den).getD k .dead).ren (sgm is id))
  | j, [] => rfl
  | j, b :: bs => by
    simp only [pairsOf, List.map_cons, List.length_cons, List.range_succ_eq_map, List.map_map, pairsOf_den is id (j + 1) bs]
    refine List.cons_eq_cons.2 ⟨by simp [SBlk.ren_den], ?_⟩
    refine List.map_congr_left fun k _ => ?_
    simp [Nat.add_assoc, Nat.add_comm 1 k]
/-- What is known of a function that is handed blocks. -/
abbrev EntB := List SV → List SBlk → Option (List Prop × SV × List SBlk)
def SpecOK (P : Program) (f : FuncId) (g : EntB) : Prop := ∀ xs Hs ps r Hs', g xs Hs = some (ps, r, Hs') → AllP ps → Spec P f (SV.denL xs) (Hs.map SBlk.den) r.den (Hs'.map SBlk.den)
/-- The entry of a function that is handed blocks. -/
def specB (g : EntB) (H : Nat → Option SBlk) (id : Nat) (ps : List Prop) (Z : List Nat) (ys : List SV) (is : List Nat) : Option SOut :=
  match blocksOf H is is with
  | some bs =>
    match nodupB is && (allIn is (SV.idsL ys) && (noneIn Z is && SV.lowL is.length (SV.renL (posOf is) ys))) with
    | true =>
      match g (SV.renL (posOf is) ys) bs with
      | some (qs, r, bs') =>
        match Nat.ble bs'.length (is.length + 8) with
        | true => some { ps := ps ++ qs, val := r.ren (sgm is id), ri := Z ++ is, wr := (Z.map fun i => (i, SBlk.dead)) ++ pairsOf is id 0 bs' }
        | false => none
      | none => none
    | false => none
  | none => none
def specE (g : EntB) : Ent1 := fun xs H id =>
  match coeRow (coeV2 H) xs with
  | some (ps, Z, ys) => specB g H id ps Z ys (closeIds H 4 (addNew [] (SV.idsL ys)))
  | none => none
theorem specE_ok {P : Program} {f : FuncId} {g : EntB} (hg : SpecOK P f g) : EntOK P f (specE g) := by
  intro xs H id out h hp
  unfold specE at h
  split at h
  · rename_i ps Z ys h1
    generalize closeIds H 4 (addNew [] (SV.idsL ys)) = is at h
    unfold specB at h
    split at h
    · rename_i bs hbs
      split at h
      · rename_i hc
        simp only [Bool.and_eq_true] at hc
        obtain ⟨c1, c2, c3, c4⟩ := hc
        split at h
        · rename_i qs r bs' hr
          split at h
          · rename_i hl
            cases h
            obtain ⟨hp1, hp2⟩ := AllP.app.1 hp
            obtain ⟨a1, a3⟩ := coeRow_ok2 (coeV2_ok H) _ _ _ _ h1 hp1
            obtain ⟨b1, b2⟩ := blocksOf_ok id hbs
            have hs := hg _ _ _ _ _ hr hp2
            have hback : SV.denL ys = AV.renL (sgm is id) (SV.denL (SV.renL (posOf is) ys)) := by
              rw [← svRenL_den, renL_back ys (fun i hi => sgm_posOf (allIn_mem c2 i hi))]
            rw [hback] at a1
            have key := CallR.wr (H := denH H) (id := id) (is := is) (Z := Z) hs (by simp [b1]) (nodupB_ok c1) (fun j i k e e' => by
              rw [List.getElem?_map, Option.map_eq_some_iff] at e'
              obtain ⟨b, e', rfl⟩ := e'
              obtain ⟨g1, g2, g3⟩ := b2 j i b e e'
              refine ⟨?_, by rw [SBlk.live_den]; exact g2, SBlk.low_den g3⟩
              rw [denH_some g1, SBlk.ren_den]) (lowL_den _ c4) (by simpa using Nat.le_of_ble_eq_true hl) a1 (fun i hi => by
              obtain ⟨k, hk, hl⟩ := a3 i hi
              exact ⟨k.den, denH_some hk, hl⟩) (fun i hi => noneIn_mem c3 i hi)
            simp only [SOut.den, List.map_append, List.map_map, pairsOf_den, ren_den]
            simp only [List.length_map, Nat.zero_add] at key ⊢
            exact key
          · cases h
        · cases h
      · cases h
    · cases h
  · cases h

/-- The integers of a row, of another kind. -/
def rowK (kd : IntKind) (f : Nat → List SV) (k : Nat) : Nat → Nat → List SV
  | 0, _ => []
  | n + 1, j => .int kd (cI f j k) :: rowK kd f k n (j + 1)
def RowK (kd : IntKind) (n m : Nat) (f : Nat → List SV) : Prop := ∀ k, k < m → leRow le0 (f k) (rowK kd f k n 0)
theorem SLe.rowK {kd : IntKind} {n m : Nat} {f g : Nat → List SV} (h : RowK kd n m f) (e : ∀ k, g k = Sep.rowK kd f k n 0) : SLe (.sl n m f) (.sl n m g) := .sl fun k hk => by rw [e]; exact leRow_to le0_ok _ _ (h k hk)

/-- Blocks, of which the second ones say less. -/
inductive SBLe : List SBlk → List SBlk → Prop
  | nil : SBLe [] []
  | same {b : SBlk} {bs cs : List SBlk} (h : SBLe bs cs) : SBLe (b :: bs) (b :: cs)
  | cells {xs ys : List SV} {bs cs : List SBlk} (h : SLeL xs ys) (hs : SBLe bs cs) : SBLe (.cells xs :: bs) (.cells ys :: cs)
theorem SBLe.to {bs cs : List SBlk} (h : SBLe bs cs) : HLe ((bs.map SBlk.den)[·]?) ((cs.map SBlk.den)[·]?) ∧ bs.length = cs.length := by
  induction h with
  | nil => exact ⟨fun i => .inl ⟨by simp, by simp⟩, rfl⟩
  | same h ih =>
    refine ⟨fun i => ?_, by simp [ih.2]⟩
    cases i with
    | zero => exact .inr ⟨_, _, rfl, rfl, .refl _⟩
    | succ i => simpa using ih.1 i
  | cells h hs ih =>
    refine ⟨fun i => ?_, by simp [ih.2]⟩
    cases i with
    | zero => exact .inr ⟨_, _, rfl, rfl, by simp only [SBlk.den]; exact Blk.le.cells h.to⟩
    | succ i => simpa using ih.1 i
theorem Spec.blocks {P : Program} {f : FuncId} {xs : List AV} {Hs Ks : List SBlk} {Hs' : List Blk} {r : AV} (hs : Spec P f xs (Ks.map SBlk.den) r Hs') (h : SBLe Hs Ks) : Spec P f xs (Hs.map SBlk.den) r Hs' := by
  obtain ⟨h1, h2⟩ := h.to
  refine ⟨hs.1, by have := hs.2.1; simp at this ⊢; omega, fun ρ0 S w vs hm hr => hs.2.2 ρ0 S w vs ((hm.le h1).less fun i hi => ?_) hr⟩
  simp at hi ⊢; omega
/-- What is left to show of a function that is handed blocks. -/
abbrev VB (ck : Bool) (E : Eqs) (O : Orc) (f : Func) (L : List Nat) (LO : Loops) (xs : List SV) (Hs : List SBlk) (r : SV) (Hs' : List SBlk) : Prop :=
  vcS PP E O ck YS.none f.ntmps L LO (bodyOf f) (retS PP f.results.toList r Hs') (argsS 0 xs) (idxB 0 Hs) ⟨Hs.length, 0, false⟩
theorem enterB {E : Eqs} (hE : EqsOK PP E) {O : Orc} (hO : OrcOK PP O) {ck : Bool} {L : List Nat} {LO : Loops} {k : FuncId} {f : Func} {xs : List SV} {Hs Hs' : List SBlk} {r : SV} (hf : PP.funcs[k]? = some f) (hn : isFn f xs.length = true) (hl : Hs'.length = Hs.length)
    (hL : ∀ Y : YEnv PP YS.none, LoopsOK Y Fence.wide f.ntmps Hs.length LO (bodyOf f)) (h : Hold (VB ck E O f L LO xs Hs r Hs')) : Spec PP k (SV.denL xs) (Hs.map SBlk.den) r.den (Hs'.map SBlk.den) := by
  obtain ⟨h1, h2, h3⟩ := isFn_inv hn
  exact Spec.enterS hE hO hmix ck L LO hf h1 h2 h3 hl hL h.out
end Go.Proofs.Ytkklmkogdogbkaa.Sep
/-
  What (*cuts).of computes. No condition. (This text proves no statement by itself.)
-/
namespace Go.Proofs.Ytkklmkogdogbkaa.M
open Go
set_option linter.unusedVariables false
/-- Nothing is to be cut. -/
def ofSkip (m : Nat) (a b : Int) : Prop := m = 0 ∨ b < a
instance (m : Nat) (a b : Int) : Decidable (ofSkip m a b) := by unfold ofSkip; exact inferInstance
def ofK (m : Nat) (n : Int) : Nat := ((n + 1).tmod m).toNat
def ofN (m : Nat) (n a b : Int) : Int := if ofSkip m a b then n else n + 1
def ofLo (m : Nat) (c0 : Nat → Int) (n a b : Int) : Int := if ofSkip m a b then a else cutLo (c0 (ofK m n)) a b
def ofHi (m : Nat) (c0 c1 : Nat → Int) (n a b : Int) : Int := if ofSkip m a b then b else cutHi (c0 (ofK m n)) (c1 (ofK m n)) a b
theorem ofK_lt {m : Nat} {n : Int} (hm : m ≠ 0) (hn : 0 ≤ n) : ofK m n < m ∧ (ofK m n : Int) = (n + 1).tmod m := by
  have h1 : 0 ≤ (n + 1).tmod (m : Int) := Int.tmod_nonneg _ (by omega)
  have h2 : (n + 1).tmod (m : Int) < m := Int.tmod_lt_of_pos _ (by omega)
  unfold ofK
  omega
/-- The bits that two numbers share. -/
def band (a b : Int) : Int := Go.IntKind.wrap .i64 ((BitVec.ofInt (IntKind.bits .i64) a &&& BitVec.ofInt (IntKind.bits .i64) b).toNat : Int)
def some (a b : Int) : Int := if band a b = 0 then a else band a b
end Go.Proofs.Ytkklmkogdogbkaa.M
/-
  Contracts of what SurgeEye and SurgeInside call: cuts that are drawn from a counted row, and small tests. No condition. (This text proves no statement by itself.)
-/
namespace Go.Proofs.Ytkklmkogdogbkaa.Sep
open Go
set_option linter.unusedVariables false
set_option linter.unusedSimpArgs false
def e17 : EntB
  | [.ptr 0 0, .agg [.int .i64 a, .int .i64 b]], [.cells [.sl 2 m g_1, .int .i64 n]] => some ([RowK .u32 2 m g_1, 0 ≤ n, n ≤ 1000000, ∀ k, k < m → 0 ≤ (cI g_1 0) k ∧ (cI g_1 0) k ≤ 4294967295 ∧ 0 ≤ (cI g_1 1) k ∧ (cI g_1 1) k ≤ 4294967295, -1000000000000000 ≤ a, b ≤ 1000000000000000], .agg [SI (M.ofLo m (cI g_1 0) n a b), SI (M.ofHi m (cI g_1 0) (cI g_1 1) n a b)], [.cells [.sl 2 m (fun k => [.int .u32 ((cI g_1 0) k), .int .u32 ((cI g_1 1) k)]), SI (M.ofN m n a b)]])
  | _, _ => none
def Rr17 (a b : Int) (m : Nat) (c0 c1 : Nat → Int) (n : Int) : Prop := ((!decide ((↑m : Int) = (0 : Int))) = true → (!decide ((↑m : Int) = (0 : Int))) = true) ∧ ((!decide ((↑m : Int) = (0 : Int))) = true → (!decide ((↑m : Int) = (0 : Int))) = true) ∧ ((!decide ((↑m : Int) = (0 : Int))) = true → (!decide ((↑m : Int) = (0 : Int))) = true) ∧ ((!decide ((↑m : Int) = (0 : Int))) = true → (!decide ((↑m : Int) = (0 : Int))) = true) ∧ (decide ((↑m : Int) = (0 : Int)) = false → (!decide ((↑m : Int) = (0 : Int))) = true) ∧ ((bif decide ((↑m : Int) = (0 : Int)) then true else decide (b < a)) = true → ((m = m ∧ ∀ (k : Nat), k < m → c0 k = c0 k ∧ c1 k = c1 k) ∧ n = M.ofN m n a b) ∧ a = M.ofLo m c0 n a b ∧ b = M.ofHi m c0 c1 n a b) ∧ ((bif decide ((↑m : Int) = (0 : Int)) then true else decide (b < a)) = false → R64 (n + (1 : Int)) ∧ (↑m : Int) ≠ (0 : Int) ∧ (0 : Int) ≤ Int.tmod (n + (1 : Int)) (↑m : Int) ∧ Int.tmod (n + (1 : Int)) (↑m : Int) < (↑m : Int) ∧ Int.toNat (Int.tmod (n + (1 : Int)) (↑m : Int)) < m ∧ a ≤ b ∧ (0 : Int) ≤ c0 (Int.toNat (Int.tmod (n + (1 : Int)) (↑m : Int))) ∧ c0 (Int.toNat (Int.tmod (n + (1 : Int)) (↑m : Int))) ≤ (4294967295 : Int) ∧ (0 : Int) ≤ c1 (Int.toNat (Int.tmod (n + (1 : Int)) (↑m : Int))) ∧ c1 (Int.toNat (Int.tmod (n + (1 : Int)) (↑m : Int))) ≤ (4294967295 : Int) ∧ R64 a ∧ R64 b ∧ R64 (b - a + (1 : Int)) ∧ ((m = m ∧ ∀ (k : Nat), k < m → c0 k = c0 k ∧ c1 k = c1 k) ∧ n + (1 : Int) = M.ofN m n a b) ∧ M.cutLo (c0 (Int.toNat (Int.tmod (n + (1 : Int)) (↑m : Int)))) a b = M.ofLo m c0 n a b ∧ M.cutHi (c0 (Int.toNat (Int.tmod (n + (1 : Int)) (↑m : Int)))) (c1 (Int.toNat (Int.tmod (n + (1 : Int)) (↑m : Int)))) a b = M.ofHi m c0 c1 n a b)
theorem r17 (a b : Int) (m : Nat) (c0 c1 : Nat → Int) (n : Int) : VB true [] [(23, pureE e23)] Try.f17 [0,1,3,4,17] [] [.ptr 0 0, .agg [SI a, SI b]] [.cells [.sl 2 m (fun k => [.int .u32 (c0 k), .int .u32 (c1 k)]), SI n]] (.agg [SI (M.ofLo m c0 n a b), SI (M.ofHi m c0 c1 n a b)]) [.cells [.sl 2 m (fun k => [.int .u32 (c0 k), .int .u32 (c1 k)]), SI (M.ofN m n a b)]] = Rr17 a b m c0 c1 n := by kernel_rfl
theorem br17 (a b : Int) (m : Nat) (c0 c1 : Nat → Int) (n : Int) (hp : (0 ≤ n) ∧ (n ≤ 1000000) ∧ (∀ k, k < m → 0 ≤ c0 k ∧ c0 k ≤ 4294967295 ∧ 0 ≤ c1 k ∧ c1 k ≤ 4294967295) ∧ (-1000000000000000 ≤ a) ∧ (b ≤ 1000000000000000) ∧ AllP []) : Rr17 a b m c0 c1 n := by
  unfold Rr17
  obtain ⟨h1, h2, hc, h4, h5, -⟩ := hp
  by_cases g : M.ofSkip m a b
  · have e1 : M.ofN m n a b = n := if_pos g
    have e2 : M.ofLo m c0 n a b = a := if_pos g
    have e3 : M.ofHi m c0 c1 n a b = b := if_pos g
    rw [e1, e2, e3]
    have g' : m = 0 ∨ b < a := g
    refine ⟨fun h => h, fun h => h, fun h => h, fun h => h, fun h => by rw [h]; rfl, fun _ => ?_, fun h => ?_⟩
    · repeat' apply And.intro
      all_goals first | rfl | (intro k _; exact ⟨rfl, rfl⟩)
    · exfalso; rcases g' with g' | g' <;> simp [g'] at h
  · have e1 : M.ofN m n a b = n + 1 := if_neg g
    have e2 : M.ofLo m c0 n a b = M.cutLo (c0 (M.ofK m n)) a b := if_neg g
    have e3 : M.ofHi m c0 c1 n a b = M.cutHi (c0 (M.ofK m n)) (c1 (M.ofK m n)) a b := if_neg g
    rw [e1, e2, e3]
    have g' : ¬ (m = 0 ∨ b < a) := g
    have gm : m ≠ 0 := fun e => g' (.inl e)
    have gb : ¬ b < a := fun e => g' (.inr e)
    obtain ⟨k1, k2⟩ := M.ofK_lt gm h1
    have ek : M.ofK m n = Int.toNat (Int.tmod (n + 1) m) := rfl
    simp only [← ek]
    obtain ⟨c1', c2', c3', c4'⟩ := hc _ k1
    have hm : (m : Int) ≠ 0 := by omega
    refine ⟨fun h => h, fun h => h, fun h => h, fun h => h, fun h => by rw [h]; rfl, fun h => by simp [gm, gb] at h, fun _ => ?_⟩
    unfold R64
    repeat' apply And.intro
    all_goals first | omega | exact True.intro | rfl | (intros; repeat' apply And.intro) <;> first | rfl | exact True.intro
theorem s17 : SpecOK PP 17 e17 := by
  intro xs Hs ps res Hs1 h hp
  unfold e17 at h
  split at h
  · rename_i a b m g_1 n
    simp only [Option.some.injEq, Prod.mk.injEq] at h
    obtain ⟨rfl, rfl, rfl⟩ := h
    simp only [AllP.cons] at hp
    obtain ⟨Hg_1, hp⟩ := hp
    refine Spec.blocks (Ks := [.cells [.sl 2 m (fun k => [.int .u32 ((cI g_1 0) k), .int .u32 ((cI g_1 1) k)]), SI n]]) ?_ (.cells (.cons (.rowK Hg_1 fun _ => rfl) (.cons (.refl _) .nil)) .nil)
    refine enterB (L := [0,1,3,4,17]) (LO := []) (E := []) (O := [(23, pureE e23)]) (ck := true) (.nil) (.cons (pureE_ok s23) (.nil)) (k := 17) (f := Try.f17) (xs := [.ptr 0 0, .agg [SI a, SI b]]) (Hs := [.cells [.sl 2 m (fun k => [.int .u32 ((cI g_1 0) k), .int .u32 ((cI g_1 1) k)]), SI n]]) (Hs' := [.cells [.sl 2 m (fun k => [.int .u32 ((cI g_1 0) k), .int .u32 ((cI g_1 1) k)]), SI (M.ofN m n a b)]]) (r := (.agg [SI (M.ofLo m (cI g_1 0) n a b), SI (M.ofHi m (cI g_1 0) (cI g_1 1) n a b)])) (by kernel_rfl) (by kernel_rfl) rfl (fun _ => .nil) ?_
    exact Hold.of (r17 a b m (cI g_1 0) (cI g_1 1) n) (br17 a b m (cI g_1 0) (cI g_1 1) n hp)
  · cases h
def e34 : List SV → Option (List Prop × SV)
  | [.int .i64 a, .int .u8 b] => some ([0 ≤ b, b ≤ 255], SI (M.some a b))
  | _ => none
def Rr34 (a b : Int) : Prop := R64 b ∧ ((!decide (IntKind.wrap IntKind.i64 (↑(BitVec.toNat (BitVec.ofInt (IntKind.bits IntKind.i64) a &&& BitVec.ofInt (IntKind.bits IntKind.i64) b)) : Int) = (0 : Int))) = true → R64 b ∧ IntKind.wrap IntKind.i64 (↑(BitVec.toNat (BitVec.ofInt (IntKind.bits IntKind.i64) a &&& BitVec.ofInt (IntKind.bits IntKind.i64) b)) : Int) = M.some a b) ∧ ((!decide (IntKind.wrap IntKind.i64 (↑(BitVec.toNat (BitVec.ofInt (IntKind.bits IntKind.i64) a &&& BitVec.ofInt (IntKind.bits IntKind.i64) b)) : Int) = (0 : Int))) = false → a = M.some a b)
theorem r34 (a b : Int) : V true [] [] Try.f34 [0,1,4,9] [] [SI a, .int .u8 b] (SI (M.some a b)) = Rr34 a b := by kernel_rfl
theorem br34 (a b : Int) (hp : (0 ≤ b) ∧ (b ≤ 255) ∧ AllP []) : Rr34 a b := by
  unfold Rr34
  obtain ⟨h1, h2, -⟩ := hp
  have hb : R64 b := by unfold R64; omega
  have e : IntKind.wrap IntKind.i64 (↑(BitVec.toNat (BitVec.ofInt (IntKind.bits IntKind.i64) a &&& BitVec.ofInt (IntKind.bits IntKind.i64) b)) : Int) = M.band a b := rfl
  have e' : M.some a b = if M.band a b = 0 then a else M.band a b := rfl
  simp only [e, e']
  by_cases g : M.band a b = 0 <;> simp [g, hb]
theorem s34 : PureOK PP 34 e34 := by
  intro xs ps res h hp
  unfold e34 at h
  split at h
  · rename_i a b
    simp only [Option.some.injEq, Prod.mk.injEq] at h
    obtain ⟨rfl, rfl⟩ := h
    simp only [AllP.cons] at hp
    refine enter (L := [0,1,4,9]) (LO := []) (E := []) (O := []) (ck := true) (.nil) (.nil) (k := 34) (f := Try.f34) (xs := [SI a, .int .u8 b]) (r := (SI (M.some a b))) (by kernel_rfl) (by kernel_rfl) (fun _ => .nil) ?_
    exact Hold.of (r34 a b) (br34 a b hp)
  · cases h
