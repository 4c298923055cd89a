/-
  The small calculus, twentieth part: what is left to show of a piece of code, in symbolic values. No condition. (This text proves no statement by itself.)
-/
import Derived.Test.YtkklmkogdogbkaaSep19
namespace Go.Proofs.Ytkklmkogdogbkaa.Sep
open Go
set_option linter.unusedVariables false
set_option linter.unusedSimpArgs false

def allP : List Prop → Prop → Prop
  | [], K => K
  | p :: ps, K => p ∧ allP ps K
theorem allP_iff {ps : List Prop} {K : Prop} : allP ps K ↔ AllP ps ∧ K := by
  induction ps with
  | nil => exact ⟨fun h => ⟨AllP.nil, h⟩, fun h => h.2⟩
  | cons p ps ih => simp only [allP, ih, AllP.cons, and_assoc]

/-- Values computed before one goes on. -/
def forceR (g : SV → (SV → Prop) → Prop) : List SV → (List SV → Prop) → Prop
  | [], K => K []
  | x :: xs, K => g x fun x => forceR g xs fun xs => K (x :: xs)
def force1 (v : SV) (K : SV → Prop) : Prop :=
  match v with
  | .top => K .top
  | .lit v => K (.lit v)
  | .int k n => K (.int k n)
  | .bool b => K (.bool b)
  | .ptr i off => K (.ptr i off)
  | .rptr i sz n j => K (.rptr i sz n j)
  | .vec i sz lo len => K (.vec i sz lo len)
  | .sl sz n f => K (.sl sz n f)
  | .sptr sz n f k j => K (.sptr sz n f k j)
  | .agg cs => K (.agg cs)
  | .tup cs => K (.tup cs)
  | .fn f xs cs => K (.fn f xs cs)
  | .when g x => K (.when g x)
def force2 (v : SV) (K : SV → Prop) : Prop :=
  match v with
  | .agg cs => forceR force1 cs fun cs => K (.agg cs)
  | v => force1 v K
def force3 (v : SV) (K : SV → Prop) : Prop :=
  match v with
  | .tup cs => forceR force2 cs fun cs => K (.tup cs)
  | v => force2 v K
def force4 (v : SV) (K : SV → Prop) : Prop :=
  match v with
  | .when g x => force3 x fun x => K (.when g x)
  | v => force3 v K
theorem forceR_eq {g : SV → (SV → Prop) → Prop} (hg : ∀ v K, g v K = K v) : ∀ (cs : List SV) (K : List SV → Prop), forceR g cs K = K cs
  | [], K => rfl
  | c :: cs, K => by simp only [forceR, hg, forceR_eq hg cs]
theorem force1_eq (v : SV) (K : SV → Prop) : force1 v K = K v := by cases v <;> rfl
theorem force2_eq (v : SV) (K : SV → Prop) : force2 v K = K v := by cases v <;> first | rfl | exact forceR_eq force1_eq _ _
theorem force3_eq (v : SV) (K : SV → Prop) : force3 v K = K v := by
  cases v <;> first | rfl | exact forceR_eq force2_eq _ _ | exact forceR_eq force1_eq _ _
theorem force4_eq (v : SV) (K : SV → Prop) : force4 v K = K v := by
  cases v with
  | when g x => exact force3_eq x (fun x => K (.when g x))
  | _ => simp only [force4]; exact force3_eq _ _
def forceB (b : SBlk) (K : SBlk → Prop) : Prop :=
  match b with
  | .dead => K .dead
  | .cells cs => forceR force1 cs fun cs => K (.cells cs)
  | .row sz n f => K (.row sz n f)
theorem forceB_eq (b : SBlk) (K : SBlk → Prop) : forceB b K = K b := by
  cases b <;> first | rfl | exact forceR_eq force1_eq _ _
/-- The blocks that are written put before the others. -/
def forceW : List (Nat × SBlk) → SBlks → (SBlks → Prop) → Prop
  | [], H, K => K H
  | p :: ps, H, K => forceB p.2 fun b => forceW ps ((p.1, b) :: H) K
def putB (H : SBlks) : List (Nat × SBlk) → SBlks
  | [] => H
  | p :: ps => putB ((p.1, p.2) :: H) ps
theorem forceW_eq : ∀ (ps : List (Nat × SBlk)) (H : SBlks) (K : SBlks → Prop), forceW ps H K = K (putB H ps)
  | [], H, K => rfl
  | p :: ps, H, K => by simp only [forceW, forceB_eq, forceW_eq ps, putB]
theorem denB_putB : ∀ (ps : List (Nat × SBlk)) (H : SBlks), denB (putB H ps) = setH (denB H) (ps.map fun p => (p.1, p.2.den))
  | [], H => rfl
  | p :: ps, H => by rw [putB, denB_putB ps]; rfl
def forceN (n : Nat) (K : Nat → Prop) : Prop :=
  match n with
  | 0 => K 0
  | m + 1 => K (m + 1)
theorem forceN_eq (n : Nat) (K : Nat → Prop) : forceN n K = K n := by cases n <;> rfl

def putS (A : SSlots) (d : Option Nat) (v : SV) : SSlots :=
  match d with
  | some d => (d, v) :: A
  | none => A
theorem denA_putS (A : SSlots) (d : Option Nat) (v : SV) : denA (putS A d v) = setA (denA A) d v.den := by cases d <;> rfl

/-- The slots of L alone. -/
def pruneK : List Nat → SSlots → (SSlots → Prop) → Prop
  | [], _, K => K []
  | t :: L, A, K => force4 (getS A t) fun v => pruneK L A fun A' => K ((t, v) :: A')
def pruneS (L : List Nat) (A : SSlots) : SSlots := L.map fun t => (t, getS A t)
theorem pruneK_eq : ∀ (L : List Nat) (A : SSlots) (K : SSlots → Prop), pruneK L A K = K (pruneS L A)
  | [], A, K => rfl
  | t :: L, A, K => by simp only [pruneK, force4_eq, pruneK_eq L]; rfl
theorem denA_pruneS (L : List Nat) (A : SSlots) : denA (pruneS L A) = prune L (denA A) := by
  simp only [denA, pruneS, prune, List.map_map]
  exact List.map_congr_left (fun t _ => by
    have := getA_den A t
    simp only [Function.comp]
    rw [← this]; rfl)

/-- Whether an operation is carried out. -/
def gvS (x : SV) (want : Bool) : Option Bool :=
  match x with
  | .bool b => match want with
    | true => some b
    | false => some (!b)
  | .when g (.bool b) => match want with
    | true => some (g && b)
    | false => some (g && !b)
  | .lit (.bool b) => match want with
    | true => some b
    | false => some (!b)
  | .lit (.tuple _) => some false
  | _ => none
theorem gvS_den {x : SV} {want c : Bool} (h : gvS x want = some c) : gv x.den want = some c := by
  unfold gvS at h
  split at h
  · cases want <;> (cases h; rfl)
  · cases want <;> (cases h; rfl)
  · cases want <;> (cases h; rfl)
  · cases h; rfl
  · cases h

section
variable (P : Program) (E : Eqs) (O : Orc) (ck : Bool)

def stepS (ops : Array Oper) (o : Oper) (id : Nat) (A : SSlots) (H : SBlks) (K : SOut → Prop) : Prop :=
  match o.guard with
  | none =>
    match opS P E O ck o.op id A H with
    | some out => allP out.ps (K out)
    | none => False
  | some (j, want) =>
    match (ops[j]?).bind (·.dst) with
    | some d =>
      match gvS (getS A d) want with
      | some c =>
        match opS P E O ck o.op id A H with
        | some out =>
          match out.wr with
          | [] => allP (gimp (c = true) out.ps) (K { out with val := .when c out.val, wr := [] })
          | w :: ws => (c = true → allP out.ps (K { out with wr := w :: ws })) ∧ (c = false → K { ps := [], val := .lit undef })
        | none => False
      | none => False
    | none => False

def runS (ops : Array Oper) (id0 : Nat) : List Oper → Nat → SSlots → SBlks → List (List Nat × List Nat) → (SSlots → SBlks → List (List Nat × List Nat) → Prop) → Prop
  | [], _, A, H, tr, K => K A H tr
  | o :: rest, k, A, H, tr, K => stepS P E O ck ops o (id0 + 8 * k) A H fun out => force4 out.val fun v => forceW out.wr H fun H' =>
    match o.dst with
    | some d => runS ops id0 rest (k + 1) ((d, v) :: A) H' ((out.ri, out.wr.map (·.1)) :: tr) K
    | none => runS ops id0 rest (k + 1) A H' ((out.ri, out.wr.map (·.1)) :: tr) K
end

section
variable {P : Program} {E : Eqs} (hE : EqsOK P E) {O : Orc} (hO : OrcOK P O) {ck : Bool} {ops : Array Oper}
include hE hO

theorem stepS_sound {o : Oper} {id : Nat} {A : SSlots} {H : SBlks} {K : SOut → Prop} (h : stepS P E O ck ops o id A H K) : ∃ out : SOut, StpR P ops o id (getA (denA A)) (getH (denB H)) out.den ∧ K out := by
  unfold stepS at h
  split at h
  · rename_i hg
    split at h
    · rename_i out ho
      obtain ⟨h1, h2⟩ := allP_iff.1 h
      exact ⟨out, .plain hg (opS_sound hE hO ho h1), h2⟩
    · exact h.elim
  · rename_i j want hg
    split at h
    · rename_i d hd
      split at h
      · rename_i c hc
        have hc' := gvS_den hc
        rw [← getA_den] at hc'
        split at h
        · rename_i out ho
          split at h
          · rename_i hw
            obtain ⟨h1, h2⟩ := allP_iff.1 h
            obtain ⟨ps, val, ri, wr⟩ := out
            simp only at hw
            subst hw
            have hs := StpR.sym (out := SOut.den ⟨ps, val, ri, []⟩) hg hd hc' (fun e => opS_sound hE hO ho (gimp_all h1 e)) rfl
            exact ⟨{ ps := ps, val := .when c val, ri := ri, wr := [] }, hs, h2⟩
          · rename_i w ws hw
            rw [← hw] at h
            cases hcc : c with
            | true =>
              obtain ⟨h1, h2⟩ := allP_iff.1 (h.1 hcc)
              exact ⟨out, .on hg hd (by rw [hc', hcc]) (opS_sound hE hO ho h1), h2⟩
            | false => exact ⟨{ ps := [], val := .lit undef }, .off hg hd (by rw [hc', hcc]), h.2 hcc⟩
        · exact h.elim
      · exact h.elim
    · exact h.elim

theorem runS_sound {id0 : Nat} {A0 : Nat → AV} {H0 : Nat → Option Blk} {KK : SSlots → SBlks → List (List Nat × List Nat) → Prop} : ∀ (rest : List Oper) (k : Nat) (prev : Nat → Out) (A : SSlots) (H : SBlks) (tr : List (List Nat × List Nat)), rest = ops.toList.drop k → k ≤ ops.size →
    runS P E O ck ops id0 rest k A H tr KK → AI ops prev A0 allOn k = getA (denA A) → HI prev H0 allOn k = getH (denB H) → tr.reverse = (List.range k).map (fun i => ((prev i).ri, (prev i).wr.map (·.1))) →
    ∃ outs A' H' tr', (∀ i, i < k → outs i = prev i) ∧ (∀ q o, k ≤ q → ops[q]? = some o → StpR P ops o (id0 + 8 * q) (AI ops outs A0 allOn q) (HI outs H0 allOn q) (outs q)) ∧ AI ops outs A0 allOn ops.size = getA (denA A') ∧ HI outs H0 allOn ops.size = getH (denB H') ∧
      tr'.reverse = ((List.range ops.size).map (fun i => ((outs i).ri, (outs i).wr.map (·.1)))) ∧ KK A' H' tr' := by
  intro rest
  induction rest with
  | nil =>
    intro k prev A H tr hrest hk hrun hA hH htr
    have : k = ops.size := by
      have := congrArg List.length hrest
      simp at this
      omega
    subst this
    exact ⟨prev, A, H, tr, fun _ _ => rfl, fun q o hq ho => by have := (Array.getElem?_eq_some_iff.1 ho).1; omega, hA, hH, htr, hrun⟩
  | cons o rest ih =>
    intro k prev A H tr hrest hk hrun hA hH htr
    have hlt : k < ops.size := by
      have := congrArg List.length hrest
      simp at this
      omega
    have hd := List.drop_eq_getElem_cons (l := ops.toList) (i := k) (by simpa using hlt)
    rw [hd] at hrest
    obtain ⟨rfl, hrest'⟩ := List.cons.inj hrest
    rw [runS] at hrun
    obtain ⟨out, hst, hK⟩ := stepS_sound hE hO hrun
    rw [force4_eq, forceW_eq] at hK
    have hK' : runS P E O ck ops id0 rest (k + 1) (putS A (ops.toList[k]).dst out.val) (putB H out.wr) ((out.ri, out.wr.map (·.1)) :: tr) KK := by
      cases hdst : (ops.toList[k]).dst <;> (simp only [hdst] at hK; exact hK)
    let nxt : Nat → Out := fun i => if i = k then out.den else prev i
    have hn : ∀ i, i < k → nxt i = prev i := fun i hi => by simp only [nxt]; rw [if_neg (by omega)]
    have hnk : nxt k = out.den := by simp [nxt]
    have hok : ops[k]? = some ops.toList[k] := by simp [hlt]
    obtain ⟨outs, A', H', tr', g1, g2, g3, g4, g5, g6⟩ := ih (k + 1) nxt _ _ _ hrest' hlt hK' (by
        rw [denA_putS, getA_setA, ← hA]
        simp only [AI, allOn, if_true, hok, Option.bind_some, hnk]
        rw [AI_congr hn]; rfl) (by
        rw [denB_putB, getH_setH, ← hH]
        simp only [HI, allOn, if_true, hnk]
        rw [HI_congr hn]; rfl) (by
        rw [List.reverse_cons, htr, List.range_succ, List.map_append]
        congr 1
        · exact List.map_congr_left (fun i hi => by rw [hn i (by simpa using hi)])
        · simp [hnk, SOut.den])
    refine ⟨outs, A', H', tr', fun i hi => by rw [g1 i (by omega), hn i hi], fun q o' hq ho => ?_, g3, g4, g5, g6⟩
    by_cases hqk : q = k
    · subst hqk
      have e1 : ∀ i, i < q → outs i = prev i := fun i hi => by rw [g1 i (by omega), hn i hi]
      rw [hok] at ho; cases ho
      rw [AI_congr e1, HI_congr e1, hA, hH, g1 q (by omega), hnk]
      exact hst
    · exact g2 q o' (by omega) ho
end

/-- What an iterator hands on: the loop, how often, and what. -/
structure YS where
  on : Bool
  l : Nat
  n : Nat
  f : Nat → List SV
def YS.none : YS := ⟨false, 0, 0, fun _ => []⟩
/-- How many blocks there are; how many values were handed on; whether more are asked for. -/
structure Cnt where
  n : Nat
  k : Nat
  go : Bool

/-- From where one goes on. -/
structure Ctx.Re (C C' : Ctx) : Prop where
  size : C.w0.heap.size ≤ C'.w0.heap.size
  shape : ∀ b s, shp C.w0 b = some s → shp C'.w0 b = some s
  old : ∀ b, b < C.w0.heap.size → ¬ C.X b → C'.w0.heap[b]? = C.w0.heap[b]?
  keep : ∀ b vs T fz, C.S0 b → C.w0.heap[b]? = some (.cells vs T fz) → C'.w0.heap[b]? = some (.cells vs T fz)
  s0 : ∀ b, C.S0 b → C'.S0 b
  s2 : ∀ b, C'.S0 b → b < C'.w0.heap.size
  s3 : ∀ b, C'.S0 b → C.S0 b ∨ C'.X b
  x : ∀ b, C.X b → C'.X b
  x1 : ∀ b, C'.X b → C.X b ∨ (C.w0.heap.size ≤ b ∧ b < C'.w0.heap.size)
  ox : ∀ b, C'.O b → C'.X b

/-- What becomes of a walk's beginning. -/
structure Ctx.Le (C C' : Ctx) : Prop where
  ρ0 : C'.ρ0 = C.ρ0
  s0 : ∀ b, C.S0 b → C'.S0 b
  s1 : ∀ b, C'.S0 b → C.S0 b ∨ C.w0.heap.size ≤ b ∨ C.O b
  size : C.w0.heap.size ≤ C'.w0.heap.size
  shape : ∀ b s, shp C.w0 b = some s → shp C'.w0 b = some s
  keep : ∀ b vs T fz, C.S0 b → C.w0.heap[b]? = some (.cells vs T fz) → C'.w0.heap[b]? = some (.cells vs T fz)
  x : ∀ b, C.X b → C'.X b
  same : ∀ b, b < C.w0.heap.size → C.X b → ¬ C.O b → ¬ C'.O b ∧ C'.w0.heap[b]? = C.w0.heap[b]?
  o : ∀ b, C'.O b → C.O b ∨ C.w0.heap.size ≤ b
  dk : ∀ n : Nat, C.w0.heap[n]? = some (.deferred (some [])) → C'.w0.heap[n]? = some (.deferred (some []))
theorem Ctx.Le.refl (C : Ctx) : C.Le C := ⟨rfl, fun _ e => e, fun _ e => .inl e, Nat.le_refl _, fun _ _ e => e, fun _ _ _ _ _ e => e, fun _ e => e, fun _ _ _ h => ⟨h, rfl⟩, fun _ e => .inl e, fun _ e => e⟩
theorem Ctx.Le.trans {C C' C'' : Ctx} (h : C.Le C') (h' : C'.Le C'') : C.Le C'' where
  ρ0 := h'.ρ0.trans h.ρ0
  s0 b e := h'.s0 b (h.s0 b e)
  s1 b e := by
    rcases h'.s1 b e with h1 | h1 | h1
    · exact h.s1 b h1
    · exact .inr (.inl (Nat.le_trans h.size h1))
    · rcases h.o b h1 with h2 | h2
      · exact .inr (.inr h2)
      · exact .inr (.inl h2)
  size := Nat.le_trans h.size h'.size
  shape b s e := h'.shape b s (h.shape b s e)
  keep b vs T fz e e' := h'.keep b vs T fz (h.s0 b e) (h.keep b vs T fz e e')
  x b e := h'.x b (h.x b e)
  same b hb hx ho := by
    obtain ⟨h1, h2⟩ := h.same b hb hx ho
    obtain ⟨h3, h4⟩ := h'.same b (Nat.lt_of_lt_of_le hb h.size) (h.x b hx) h1
    exact ⟨h3, h4.trans h2⟩
  o b e := by
    rcases h'.o b e with h1 | h1
    · exact h.o b h1
    · exact .inr (Nat.le_trans h.size h1)
  dk n e := h'.dk n (h.dk n e)

/-- Whoever an iterator hands its values on to. -/
structure YEnv (P : Program) (ys : YS) where
  G : Nat → Bool → Ctx → Prop
  re : ∀ {k go C C'}, G k go C → C.Re C' → G k go C'
  ox : ∀ {k go C}, G k go C → ∀ b, C.O b → C.X b
  off : ys.on = false → ∀ {k go k' go' C}, G k go C → G k' go' C
  idl : ∀ k, AV.idlessL (SV.denL (ys.f k)) = true
  call : ∀ {k C args}, ys.on = true → k < ys.n → G k true C → (∀ b, C.S0 b → b < C.w0.heap.size) → RelCs C.S0 C.w0 noNames (SV.denL (ys.f k)) args →
    YieldAt Fence.wide 0 P ys.l args C.w0 fun e w' => ∃ b, e = .returned (.bool b) ∧ C.w0.heap.size ≤ w'.heap.size ∧ (∀ b s, shp C.w0 b = some s → shp w' b = some s) ∧ (∀ b vs T fz, C.S0 b → C.w0.heap[b]? = some (.cells vs T fz) → w'.heap[b]? = some (.cells vs T fz)) ∧ (∀ b, C.X b → w'.heap[b]? = C.w0.heap[b]?) ∧
      (∀ n : Nat, C.w0.heap[n]? = some (.deferred (some [])) → w'.heap[n]? = some (.deferred (some []))) ∧ G (k + 1) b { C with w0 := w' }

/-- A walk taken up anew. -/
def Ctx.again (C : Ctx) (w : World) (S : Nat → Prop) : Ctx := ⟨w, C.ρ0, S, fun b => C.O b ∨ (C.w0.heap.size ≤ b ∧ b < w.heap.size), fun b => C.X b ∨ (C.w0.heap.size ≤ b ∧ b < w.heap.size)⟩
section
variable {C : Ctx} {ρ : Names} {S : Nat → Prop} {H : Nat → Option Blk} {nx : Nat → Prop} {w : World}
theorem Mem.re (h : Mem C ρ S H nx w) (hox : ∀ b, C.O b → C.X b) : C.Re (C.again w S) where
  size := h.size
  shape := h.shape
  old b hb hx := h.old b hb fun e => hx (hox b e)
  keep := h.keep
  s0 := h.s0
  s2 := h.sin
  s3 b e := by
    rcases h.snew b e with h1 | h1 | h1
    · exact .inl h1
    · exact .inr (.inr ⟨h1, h.sin b e⟩)
    · exact .inr (.inl (hox b h1))
  x b e := .inl e
  x1 b e := e
  ox b e := e.imp (hox b) id
/-- What others do to other blocks. -/
theorem Mem.move (h : Mem C ρ S H nx w) {w' : World} (ρ0 : Names) (O X : Nat → Prop) (hρ : ρ0.le ρ) (hO : ∀ i b, ρ i = some b → O b) (hs : w.heap.size ≤ w'.heap.size) (hk : Kept S w w') (hsame : ∀ i b, ρ i = some b → w'.heap[b]? = w.heap[b]?) : Mem ⟨w', ρ0, S, O, X⟩ ρ S H nx w' where
  size := Nat.le_refl _
  shape _ _ e := e
  old _ _ _ := rfl
  ent := hρ
  s0 _ e := e
  snew _ e := .inl e
  sin b e := Nat.lt_of_lt_of_le (h.sin b e) hs
  rin i b e := ⟨Nat.lt_of_lt_of_le (h.rin i b e).1 hs, .inl (hO i b e)⟩
  own := h.own
  inj := h.inj
  blk i k e := (h.blk i k e).mono hk (fun _ e => e) (Names.le.refl _) (fun n hn => hsame i n hn)
  free := h.free
  keep _ _ _ _ _ e := e
theorem Mem.named (h : Mem C ρ S H nx w) {i b : Nat} (e : ρ i = some b) : C.O b ∨ (C.w0.heap.size ≤ b ∧ b < w.heap.size) := by
  obtain ⟨h1, h2⟩ := h.rin i b e
  exact h2.imp id fun h3 => ⟨h3, h1⟩
theorem Mem.again (h : Mem C ρ S H nx w) : Mem (C.again w S) ρ S H nx w :=
  h.move _ _ _ h.ent (fun _ _ e => h.named e) (Nat.le_refl _) (Kept.refl _ _) fun _ _ _ => rfl
/-- What was done from there on was done from the beginning. -/
theorem Mem.back {C' : Ctx} {ρ' : Names} {S' : Nat → Prop} {H' : Nat → Option Blk} {nx' : Nat → Prop} {w' : World} (h' : Mem C' ρ' S' H' nx' w') (hre : C.Re C') (hρ : C.ρ0.le C'.ρ0) (hX : ∀ b, C.X b → C.O b) : Mem C ρ' S' H' nx' w' := by
  have hx : ∀ b, C'.X b → C.O b ∨ C.w0.heap.size ≤ b := fun b e => (hre.x1 b e).imp (hX b) (·.1)
  have ho : ∀ b, C'.O b → C.O b ∨ C.w0.heap.size ≤ b := fun b e => hx b (hre.ox b e)
  refine ⟨Nat.le_trans hre.size h'.size, fun b s e => h'.shape b s (hre.shape b s e), fun b hb hn => ?_, hρ.trans h'.ent, fun b e => h'.s0 b (hre.s0 b e), fun b e => ?_, h'.sin, fun i b e => ?_, h'.own, h'.inj, h'.blk, h'.free,
    fun b vs T fz e e' => h'.keep b vs T fz (hre.s0 b e) (hre.keep b vs T fz e e')⟩
  · refine (h'.old b (Nat.lt_of_lt_of_le hb hre.size) (fun e => ?_)).trans (hre.old b hb fun e => hn (hX b e))
    rcases ho b e with h1 | h1
    · exact hn h1
    · omega
  · rcases h'.snew b e with h1 | h1 | h1
    · rcases hre.s3 b h1 with h2 | h2
      · exact .inl h2
      · exact .inr ((hx b h2).symm)
    · exact .inr (.inl (Nat.le_trans hre.size h1))
    · exact .inr ((ho b h1).symm)
  · obtain ⟨h1, h2⟩ := h'.rin i b e
    refine ⟨h1, ?_⟩
    rcases h2 with h2 | h2
    · exact ho b h2
    · exact .inr (Nat.le_trans hre.size h2)
/-- Behind a call of yield. -/
theorem Mem.yielded (h : Mem C ρ S H nx w) (hox : ∀ b, C.O b → C.X b) {w' : World} (hs : w.heap.size ≤ w'.heap.size) (hsh : ∀ b s, shp w b = some s → shp w' b = some s) (hcells : ∀ b vs T fz, S b → w.heap[b]? = some (.cells vs T fz) → w'.heap[b]? = some (.cells vs T fz)) (hsame : ∀ b, (C.again w S).X b → w'.heap[b]? = w.heap[b]?)
    (hdk : ∀ n : Nat, C.w0.heap[n]? = some (.deferred (some [])) → w'.heap[n]? = some (.deferred (some []))) :
    Mem { C.again w S with w0 := w' } ρ S H nx w' ∧ Kept S w w' ∧ C.Le { C.again w S with w0 := w' } := by
  have hk : Kept S w w' := ⟨hs, hsh, hcells⟩
  have hO : ∀ i b, ρ i = some b → (C.again w S).O b := fun i b e => h.named e
  refine ⟨h.move _ _ _ h.ent hO hs hk fun i b e => hsame b ((h.re hox).ox b (hO i b e)), hk,
    ⟨rfl, h.s0, h.snew, Nat.le_trans h.size hs, fun b s e => hsh b s (h.shape b s e), fun b vs T fz e e' => hcells b vs T fz (h.s0 b e) (h.keep b vs T fz e e'), fun b e => .inl e, fun b hb hx ho => ?_, fun b e => e.imp id (·.1), hdk⟩⟩
  refine ⟨fun e => ?_, (hsame b (.inl hx)).trans (h.old b hb ho)⟩
  rcases e with e | e
  · exact ho e
  · omega
end

abbrev SPost := Exit → SSlots → SBlks → Cnt → Prop
def denQ (Q : SPost) (e : Exit) (A : Slots) (H : Blks) (nx : Cnt) : Prop := ∃ SA SH, A = denA SA ∧ H = denB SH ∧ Q e SA SH nx
def seqS (K : SSlots → SBlks → Cnt → Prop) (Q : SPost) : SPost := fun e A H nx =>
  match e with
  | .normal => K A H nx
  | .ret => Q .ret A H nx
  | .exit j => Q (.exit j) A H nx
  | e => Q e A H nx
def blockS (id : Nat) (Q : SPost) : SPost := fun e A H nx =>
  match e with
  | .exit j => match Nat.beq j id with
    | true => Q .normal A H nx
    | false => Q (.exit j) A H nx
  | .ret => Q .ret A H nx
  | .normal => Q .normal A H nx
  | e => Q e A H nx

/-- What the machine's end must be like. -/
def EndS {P : Program} {ys : YS} (Y : YEnv P ys) (N : Nat) (C : Ctx) (Q : SPost) : Exit → Act → World → Prop := fun e a' w' =>
  ∃ C' ρ' S' A' H' nx', C.Le C' ∧ Y.G nx'.k nx'.go C' ∧ Rep C' N ρ' S' (getA A') (getH H') (fun i => nx'.n ≤ i) a' w' ∧ (∀ t, N ≤ t → getA A' t = .top) ∧ denQ Q e A' H' nx'
/-- The piece of code does what is asked, from whatever the state stands for, in a function that has m blocks of its caller's. -/
def WPS {P : Program} {ys : YS} (Y : YEnv P ys) (F : Fence) (N m : Nat) (c : Code) (Q : SPost) (A : SSlots) (H : SBlks) (nx : Cnt) : Prop :=
  ∀ C ρ S a w, (∀ i, m ≤ i → C.ρ0 i = none) → Y.G nx.k nx.go C → Rep C N ρ S (getA (denA A)) (getH (denB H)) (fun i => nx.n ≤ i) a w → (∀ t, N ≤ t → getA (denA A) t = .top) →
    c.wpIn F 0 P (EndS Y N C Q) a w
theorem EndS.le {P : Program} {ys : YS} {Y : YEnv P ys} {N : Nat} {C C' : Ctx} {Q : SPost} {e : Exit} {a : Act} {w : World} (h : EndS Y N C' Q e a w) (hC : C.Le C') : EndS Y N C Q e a w := by
  obtain ⟨C'', ρ', S', A', H', nx', h1, h2⟩ := h
  exact ⟨C'', ρ', S', A', H', nx', hC.trans h1, h2⟩
theorem EndS.of {P : Program} {ys : YS} {Y : YEnv P ys} {N : Nat} {C : Ctx} {Q : SPost} {e : Exit} {a : Act} {w : World} {ρ : Names} {S : Nat → Prop} {A : SSlots} {H : SBlks} {nx : Cnt} (hg : Y.G nx.k nx.go C) (hr : Rep C N ρ S (getA (denA A)) (getH (denB H)) (fun i => nx.n ≤ i) a w) (ht : ∀ t, N ≤ t → getA (denA A) t = .top) (hq : Q e A H nx) : EndS Y N C Q e a w :=
  ⟨C, ρ, S, _, _, nx, .refl C, hg, hr, ht, A, H, rfl, rfl, hq⟩
/-- What is known of the loops: by the block around them. -/
abbrev Loops := List (Nat × (SPost → SSlots → SBlks → Cnt → Prop))
def loopAt : Loops → Nat → Option (SPost → SSlots → SBlks → Cnt → Prop)
  | [], _ => none
  | p :: l, id => match Nat.beq p.1 id with
    | true => some p.2
    | false => loopAt l id
theorem loopAt_mem {l : Loops} {id : Nat} {T : SPost → SSlots → SBlks → Cnt → Prop} (h : loopAt l id = some T) : (id, T) ∈ l := by
  induction l with
  | nil => cases h
  | cons p l ih =>
    simp only [loopAt] at h
    split at h
    · rename_i he
      cases h
      rw [← beq_true he]
      simp
    · exact List.mem_cons_of_mem _ (ih h)

/-- Of two rows the second says less, as a plain proposition. -/
def leRow (g : SV → SV → Prop) : List SV → List SV → Prop
  | [], [] => True
  | x :: xs, y :: ys =>
    match xs with
    | [] => match ys with
      | [] => g x y
      | _ :: _ => False
    | _ :: _ => g x y ∧ leRow g xs ys
  | _, _ => False
def le0 (x y : SV) : Prop :=
  match y with
  | .top => True
  | .int k' b => match x with
    | .int k a => match decEq k k' with
      | .isTrue _ => a = b
      | .isFalse _ => False
    | _ => False
  | .bool b => match x with
    | .bool a => a = b
    | _ => False
  | .lit v' => match x with
    | .lit v => v = v'
    | _ => False
  | _ => False
def leA (x y : SV) : Prop :=
  match y with
  | .sl s' n' g => match x with
    | .sl s n f => match Nat.beq s s' with
      | true => n = n' ∧ ∀ k, k < n → leRow le0 (f k) (g k)
      | false => False
    | .lit (.slice none 0 0) => n' = 0
    | _ => False
  | y => le0 x y
def le1 (x y : SV) : Prop :=
  match y with
  | .sl s' n' g => match x with
    | .sl s n f => match Nat.beq s s' with
      | true => n = n' ∧ ∀ k, k < n → leRow leA (f k) (g k)
      | false => False
    | .lit (.slice none 0 0) => n' = 0
    | _ => False
  | y => le0 x y
def leP (x y : SV) : Prop :=
  match y with
  | .sptr s' n' g k' j' => match x with
    | .sptr s n f k j => match Nat.beq s s' with
      | true => match Nat.beq j j' with
        | true => n = n' ∧ k = k' ∧ ∀ q, q < n → leRow le1 (f q) (g q)
        | false => False
      | false => False
    | _ => False
  | y => le1 x y
def le2 (x y : SV) : Prop :=
  match y with
  | .agg ds => match x with
    | .agg cs => leRow leP cs ds
    | _ => False
  | .fn f' ys ds => match x with
    | .fn f xs cs => match Nat.beq f f' with
      | true => leRow leP xs ys ∧ leRow leP cs ds
      | false => False
    | _ => False
  | y => leP x y
def le3 (x y : SV) : Prop :=
  match y with
  | .tup ds => match x with
    | .tup cs => leRow le2 cs ds
    | _ => False
  | y => le2 x y

def LeOK (g : SV → SV → Prop) : Prop := ∀ x y, g x y → x.den.le y.den
theorem leRow_ok {g : SV → SV → Prop} (hg : LeOK g) : ∀ (xs ys : List SV), leRow g xs ys → LeL (SV.denL xs) (SV.denL ys)
  | [], [], _ => trivial
  | [x], [y], h => ⟨hg _ _ h, trivial⟩
  | [x], y :: z :: ys, h => h.elim
  | x :: z :: xs, y :: ys, h => ⟨hg _ _ h.1, leRow_ok hg (z :: xs) ys h.2⟩
  | [], y :: ys, h => h.elim
  | x :: xs, [], h => by unfold leRow at h; exact h.elim
theorem le0_ok : LeOK le0 := by
  intro x y h
  unfold le0 at h
  split at h
  · exact AV.le.top _
  · split at h
    · split at h
      · rename_i hk _; subst hk; subst h; exact .refl _
      · exact h.elim
    · exact h.elim
  · split at h
    · subst h; exact .refl _
    · exact h.elim
  · split at h
    · subst h; exact .refl _
    · exact h.elim
  · exact h.elim
theorem rows_le {n : Nat} {f g : Nat → List SV} (h : ∀ k, k < n → LeL (SV.denL (f k)) (SV.denL (g k))) : LeLL (rowsOf n f) (rowsOf n g) := by
  refine ⟨by simp [rowsOf], fun k x y h1 h2 => ?_⟩
  rw [rowsOf_get] at h1 h2
  split at h1
  · rename_i hk; rw [if_pos hk] at h2; cases h1; cases h2; exact h k hk
  · cases h1
theorem leA_ok : LeOK leA := by
  intro x y h
  unfold leA at h
  split at h
  · split at h
    · split at h
      · rename_i hs
        have hs := beq_true hs
        subst hs
        obtain ⟨rfl, h⟩ := h
        simp only [SV.den]
        exact AV.le.vsl (rows_le (fun k hk => leRow_ok le0_ok _ _ (h k hk)))
      · exact h.elim
    · subst h
      intro S w ρ v hv
      obtain rfl := Rel.lit_inv hv
      exact .vslNil
    · exact h.elim
  · exact le0_ok _ _ h
theorem le1_ok : LeOK le1 := by
  intro x y h
  unfold le1 at h
  split at h
  · split at h
    · split at h
      · rename_i hs
        have hs := beq_true hs
        subst hs
        obtain ⟨rfl, h⟩ := h
        simp only [SV.den]
        exact AV.le.vsl (rows_le (fun k hk => leRow_ok leA_ok _ _ (h k hk)))
      · exact h.elim
    · subst h
      intro S w ρ v hv
      obtain rfl := Rel.lit_inv hv
      exact .vslNil
    · exact h.elim
  · exact le0_ok _ _ h
theorem AV.le.vptr {sz n j : Nat} {xs ys : List (List AV)} (h : LeLL xs ys) : (AV.vptr sz xs n j).le (.vptr sz ys n j) := fun S w ρ v hv => by
  obtain ⟨hl, h⟩ := h
  have row : ∀ (k : Nat) cs, ys[k]? = some cs → ∃ x, xs[k]? = some x ∧ LeL x cs := fun k cs e => by
    have hk : k < xs.length := by rw [hl]; exact (List.getElem?_eq_some_iff.1 e).1
    exact ⟨xs[k], by simp, h k _ _ (by simp) e⟩
  obtain ⟨b, off, rfl, hS, hz, vs, hv, hr⟩ := hv.vptr_inv
  refine .vptr vs hS (fun k cs e => ?_) (fun k j cs c e1 e2 => ?_) (fun k j cs c e1 e2 => ?_)
  · obtain ⟨x, h1, h2⟩ := row k cs e
    rw [← h2.len]; exact hz k x h1
  · obtain ⟨x, h1, h2⟩ := row k cs e1
    obtain ⟨c', h3, -⟩ := h2.get e2
    exact hv k j x c' h1 h3
  · obtain ⟨x, h1, h2⟩ := row k cs e1
    obtain ⟨c', h3, h4⟩ := h2.get e2
    exact h4 _ _ _ _ (hr k j x c' h1 h3)

theorem AV.le.fn {f : Fn} {xs ys cs ds : List AV} (h : LeL xs ys) (h' : LeL cs ds) : (AV.fn f xs cs).le (.fn f ys ds) := fun S w ρ v hv => by
  obtain ⟨us, vs, rfl, h1, h2, h3, h4⟩ := hv.fn_inv
  refine .fn (by rw [h1, h.len]) (fun k c u e1 e2 => ?_) (by rw [h3, h'.len]) (fun k c u e1 e2 => ?_)
  · obtain ⟨x, hx, hle⟩ := h.get e1
    exact hle _ _ _ _ (h2 k x u hx e2)
  · obtain ⟨x, hx, hle⟩ := h'.get e1
    exact hle _ _ _ _ (h4 k x u hx e2)
theorem leP_ok : LeOK leP := by
  intro x y h
  unfold leP at h
  split at h
  · split at h
    · split at h
      · rename_i hs
        have hs := beq_true hs
        subst hs
        split at h
        · rename_i hj
          have hj := beq_true hj
          subst hj
          obtain ⟨rfl, rfl, h⟩ := h
          simp only [SV.den]
          exact AV.le.vptr (rows_le (fun k hk => leRow_ok le1_ok _ _ (h k hk)))
        · exact h.elim
      · exact h.elim
    · exact h.elim
  · exact le1_ok _ _ h
theorem le2_ok : LeOK le2 := by
  intro x y h
  unfold le2 at h
  split at h
  · split at h
    · simp only [SV.den]; exact AV.le.agg (leRow_ok leP_ok _ _ h)
    · exact h.elim
  · split at h
    · split at h
      · rename_i hs
        have hs := beq_true hs
        subst hs
        simp only [SV.den]
        exact AV.le.fn (leRow_ok leP_ok _ _ h.1) (leRow_ok leP_ok _ _ h.2)
      · exact h.elim
    · exact h.elim
  · exact leP_ok _ _ h
theorem le3_ok : LeOK le3 := by
  intro x y h
  unfold le3 at h
  split at h
  · split at h
    · simp only [SV.den]; exact AV.le.tup (leRow_ok le2_ok _ _ h)
    · exact h.elim
  · exact le2_ok _ _ h

end Go.Proofs.Ytkklmkogdogbkaa.Sep
