/-
  The small calculus, seventeenth part: operations on symbolic values that touch no memory. No condition. (This text proves no statement by itself.)
-/
import Derived.Test.YtkklmkogdogbkaaSep16
namespace Go.Proofs.Ytkklmkogdogbkaa.Sep
open Go
set_option linter.unusedVariables false
set_option linter.unusedSimpArgs false

def AllP (ps : List Prop) : Prop := ∀ p ∈ ps, p
theorem AllP.nil : AllP [] := fun p h => by cases h
theorem AllP.app {ps qs : List Prop} : AllP (ps ++ qs) ↔ AllP ps ∧ AllP qs :=
  ⟨fun h => ⟨fun p hp => h p (by simp [hp]), fun p hp => h p (by simp [hp])⟩, fun h p hp => by
    rcases List.mem_append.1 hp with e | e
    · exact h.1 p e
    · exact h.2 p e⟩
theorem AllP.cons {p : Prop} {ps : List Prop} : AllP (p :: ps) ↔ p ∧ AllP ps :=
  ⟨fun h => ⟨h p (by simp), fun q hq => h q (by simp [hq])⟩, fun h q hq => by
    rcases List.mem_cons.1 hq with e | e
    · subst e; exact h.1
    · exact h.2 q e⟩

/-- It fits into 64 bits. -/
def R64 (n : Int) : Prop := -9223372036854775808 ≤ n ∧ n ≤ 9223372036854775807
theorem wrap_R64 {n : Int} (h : R64 n) : IntKind.wrap .i64 n = n := by
  unfold R64 at h
  have e1 : (2 : Int) ^ IntKind.i64.bits = 18446744073709551616 := by decide
  have e2 : (2 : Int) ^ (IntKind.i64.bits - 1) = 9223372036854775808 := by decide
  simp only [IntKind.wrap, IntKind.signed, Bool.true_and, decide_eq_true_eq, e1, e2]
  split <;> omega

def arith (ck : Bool) (k : IntKind) (n : Int) : List Prop × SV :=
  match ck, k with
  | true, .i64 => ([R64 n], .int .i64 n)
  | _, k => ([], .int k (k.wrap n))
theorem arith_den {ck : Bool} {k : IntKind} {n : Int} (h : AllP (arith ck k n).1) : (arith ck k n).2.den = .lit (.int k (k.wrap n)) := by
  unfold arith at h ⊢
  split
  · simp only [SV.den]; rw [wrap_R64 (h _ (by simp))]
  · rfl

def intBinS (ck : Bool) (op : BinOp) (k : IntKind) (a b : Int) : Option (List Prop × SV) :=
  match op with
  | .add => some (arith ck k (a + b))
  | .sub => some (arith ck k (a - b))
  | .mul => some (arith ck k (a * b))
  | .quo => some ((b ≠ 0) :: (arith ck k (a.tdiv b)).1, (arith ck k (a.tdiv b)).2)
  | .rem => some ([b ≠ 0], .int k (a.tmod b))
  | .and => some ([], .int k (k.wrap (BitVec.ofInt k.bits a &&& BitVec.ofInt k.bits b).toNat))
  | .or => some ([], .int k (k.wrap (BitVec.ofInt k.bits a ||| BitVec.ofInt k.bits b).toNat))
  | .xor => some ([], .int k (k.wrap (BitVec.ofInt k.bits a ^^^ BitVec.ofInt k.bits b).toNat))
  | .eql => some ([], .bool (decide (a = b)))
  | .neq => some ([], .bool (!decide (a = b)))
  | .lss => some ([], .bool (decide (a < b)))
  | .leq => some ([], .bool (decide (a ≤ b)))
  | .gtr => some ([], .bool (decide (b < a)))
  | .geq => some ([], .bool (decide (b ≤ a)))
  | _ => none
theorem intBinS_sound {ck : Bool} {op : BinOp} {k : IntKind} {a b : Int} {ps : List Prop} {z : SV} (h : intBinS ck op k a b = some (ps, z)) (hp : AllP ps) : ∃ c v, intBin op k a b = some (c, v) ∧ c ∧ z.den = .lit v := by
  cases op <;> simp only [intBinS, Option.some.injEq, Prod.mk.injEq, reduceCtorEq] at h <;> (try (obtain ⟨rfl, rfl⟩ := h)) <;> simp only [intBin, Option.some.injEq, Prod.mk.injEq]
  all_goals first
    | exact ⟨_, _, ⟨rfl, rfl⟩, trivial, rfl⟩
    | (refine ⟨_, _, ⟨rfl, rfl⟩, trivial, ?_⟩
       have := arith_den (ck := ck) (k := k) (n := (a + b))
       rw [h] at this; exact this hp)
    | (refine ⟨_, _, ⟨rfl, rfl⟩, trivial, ?_⟩
       have := arith_den (ck := ck) (k := k) (n := (a - b))
       rw [h] at this; exact this hp)
    | (refine ⟨_, _, ⟨rfl, rfl⟩, trivial, ?_⟩
       have := arith_den (ck := ck) (k := k) (n := (a * b))
       rw [h] at this; exact this hp)
    | (refine ⟨_, _, ⟨rfl, rfl⟩, hp _ (by simp), ?_⟩
       exact arith_den (fun p h => hp p (by simp [h])))
    | exact ⟨_, _, ⟨rfl, rfl⟩, hp _ (by simp), rfl⟩

/-- '==' of rows of integers and bools. -/
def eqS : List SV → List SV → Option (List Nat × Bool)
  | [], [] => some ([], true)
  | .int k a :: xs, .int k' b :: ys => if k = k' then match eqS xs ys with
    | some (ks, r) => some (5 :: ks, decide (a = b) && r)
    | none => none else none
  | .bool a :: xs, .bool b :: ys => match eqS xs ys with
    | some (ks, r) => some (4 :: ks, (a == b) && r)
    | none => none
  | _, _ => none
theorem eqS_den : ∀ {xs ys : List SV} {ks : List Nat} {r : Bool}, eqS xs ys = some (ks, r) → ∃ us vs, litsOf (SV.denL xs) = some us ∧ litsOf (SV.denL ys) = some vs ∧ us.map kindOf = ks ∧ eqVs ks us vs = some r := by
  intro xs
  induction xs with
  | nil =>
    intro ys ks r h
    cases ys with
    | nil => simp only [eqS, Option.some.injEq, Prod.mk.injEq] at h; obtain ⟨rfl, rfl⟩ := h; exact ⟨[], [], rfl, rfl, rfl, rfl⟩
    | cons y ys => simp [eqS] at h
  | cons x xs ih =>
    intro ys ks r h
    unfold eqS at h
    split at h
    · rename_i e1; cases e1
    · rename_i k a xs' k' b ys' e1
      cases e1
      split at h
      · rename_i hk
        subst hk
        cases h1 : eqS xs ys' with
        | none => simp only [h1, reduceCtorEq] at h
        | some q =>
        obtain ⟨ks', r'⟩ := q
        simp only [h1, Option.some.injEq, Prod.mk.injEq] at h
        obtain ⟨rfl, rfl⟩ := h
        obtain ⟨us, vs, g1, g2, g3, g4⟩ := ih h1
        refine ⟨.int k a :: us, .int k b :: vs, by simp [SV.denL, SV.den, litsOf, g1], by simp [SV.denL, SV.den, litsOf, g2], by simp [kindOf, g3], ?_⟩
        simp only [eqVs, if_true, g4, Option.map_some]; rfl
      · cases h
    · rename_i a xs' b ys' e1
      cases e1
      cases h1 : eqS xs ys' with
      | none => simp only [h1, reduceCtorEq] at h
      | some q =>
      obtain ⟨ks', r'⟩ := q
      simp only [h1, Option.some.injEq, Prod.mk.injEq] at h
      obtain ⟨rfl, rfl⟩ := h
      obtain ⟨us, vs, g1, g2, g3, g4⟩ := ih h1
      refine ⟨.bool a :: us, .bool b :: vs, by simp [SV.denL, SV.den, litsOf, g1], by simp [SV.denL, SV.den, litsOf, g2], by simp [kindOf, g3], ?_⟩
      simp only [eqVs, g4, Option.map_some]
    · cases h

abbrev Eqs := List (TypeId × List Nat)
def EqsOK (P : Program) (E : Eqs) : Prop := ∀ p ∈ E, EqOK P p.1 p.2

def shlS (ck : Bool) (k : IntKind) (a b : Int) : List Prop × SV :=
  match ck, k with
  | true, .i64 => ([0 ≤ b, b ≤ 64, R64 (a * 2 ^ b.toNat)], .int .i64 (a * 2 ^ b.toNat))
  | _, k => ([0 ≤ b], .int k (k.wrap (a * 2 ^ (min b.toNat k.bits))))
theorem shlS_sound {ck : Bool} {k : IntKind} {a b : Int} {ps : List Prop} {z : SV} (h : shlS ck k a b = (ps, z)) (hp : AllP ps) : 0 ≤ b ∧ z.den = .lit (.int k (k.wrap (a * 2 ^ (min b.toNat k.bits)))) := by
  unfold shlS at h
  split at h
  · obtain ⟨rfl, rfl⟩ := Prod.mk.inj h
    obtain ⟨h1, hp⟩ := AllP.cons.1 hp
    obtain ⟨h2, hp⟩ := AllP.cons.1 hp
    obtain ⟨h3, hp⟩ := AllP.cons.1 hp
    refine ⟨h1, ?_⟩
    have : min b.toNat IntKind.i64.bits = b.toNat := by simp only [IntKind.bits]; omega
    rw [this, wrap_R64 h3]; rfl
  · obtain ⟨rfl, rfl⟩ := Prod.mk.inj h
    exact ⟨(AllP.cons.1 hp).1, rfl⟩
def shrS (k : IntKind) (a b : Int) : List Prop × SV := ([0 ≤ b], .int k (a.fdiv (2 ^ (min b.toNat k.bits))))

def binS (P : Program) (E : Eqs) (ck : Bool) (op : BinOp) (T : TypeId) : SV → SV → Option (List Prop × SV)
  | .int k a, .int k' b =>
    match op with
    | .shl => some (shlS ck k a b)
    | .shr => some (shrS k a b)
    | op => if k = k' then intBinS ck op k a b else none
  | .bool a, .bool b =>
    match tyOf P T with
    | some t => if t.kind = 4 then
        match op with
        | .eql => some ([], .bool (a == b))
        | .neq => some ([], .bool (!(a == b)))
        | _ => none
      else none
    | none => none
  | .agg xs, .agg ys =>
    match eqS xs ys, op with
    | some (ks, r), .eql => if E.contains (T, ks) then some ([], .bool r) else none
    | some (ks, r), .neq => if E.contains (T, ks) then some ([], .bool (!r)) else none
    | _, _ => none
  | _, _ => none

theorem binS_sound {P : Program} {E : Eqs} (hE : EqsOK P E) {ck : Bool} {op : BinOp} {T : TypeId} {x y z : SV} {ps : List Prop} (h : binS P E ck op T x y = some (ps, z)) (hp : AllP ps) : ∃ c, binAbs P op T x.den y.den = some (c, z.den) ∧ c := by
  unfold binS at h
  split at h
  · rename_i k a k' b
    simp only [SV.den]
    have gen : (op ≠ .shl) → (op ≠ .shr) → (if k = k' then intBinS ck op k a b else none) = some (ps, z) → ∃ c, binAbs P op T (.lit (.int k a)) (.lit (.int k' b)) = some (c, z.den) ∧ c := fun n1 n2 h5 => by
      clear h
      split at h5
      · rename_i hk
        subst hk
        obtain ⟨c, v, g1, g2, g3⟩ := intBinS_sound h5 hp
        refine ⟨c, ?_, g2⟩
        cases op <;> first | exact absurd rfl n1 | exact absurd rfl n2 | (simp only [binAbs, if_true, g1, Option.map_some, g3])
      · cases h5
    split at h
    · obtain ⟨g1, g2⟩ := shlS_sound (Option.some.inj h) hp
      exact ⟨_, by simp only [binAbs, g2], g1⟩
    · cases h
      simp only [binAbs, Option.some.injEq, Prod.mk.injEq]
      exact ⟨_, ⟨rfl, rfl⟩, hp _ (by simp [shrS])⟩
    · rename_i n1 n2; exact gen n1 n2 h
  · rename_i a b
    simp only [SV.den, binAbs]
    split at h
    · rename_i t ht
      split at h
      · rename_i hk
        split at h
        · cases h; exact ⟨True, by simp only [ht, hk, if_true, SV.den], trivial⟩
        · cases h; exact ⟨True, by simp only [ht, hk, if_true, SV.den], trivial⟩
        · cases h
      · cases h
    · cases h
  · rename_i xs ys
    simp only [SV.den, binAbs]
    split at h
    · rename_i ks r he
      split at h
      · rename_i hc
        cases h
        obtain ⟨us, vs, g1, g2, g3, g4⟩ := eqS_den he
        have := hE _ (List.contains_iff_mem.1 hc)
        rw [g1, g2]
        simp only [g3, g4]
        exact ⟨_, rfl, this⟩
      · cases h
    · rename_i ks r he
      split at h
      · rename_i hc
        cases h
        obtain ⟨us, vs, g1, g2, g3, g4⟩ := eqS_den he
        have := hE _ (List.contains_iff_mem.1 hc)
        rw [g1, g2]
        simp only [g3, g4]
        exact ⟨_, rfl, this⟩
      · cases h
    · cases h
  · cases h

def gimp (p : Prop) (l : List Prop) : List Prop := l.map fun q => (p → q)
theorem gimp_all {p : Prop} {l : List Prop} (h : AllP (gimp p l)) (hp : p) : AllP l := fun q hq => h (p → q) (List.mem_map.2 ⟨q, hq, rfl⟩) hp

def lenS : SV → Option Nat
  | .sl _ n _ => some n
  | .vec _ _ _ n => some n
  | .lit (.slice _ n _) => some n
  | _ => none
def intS : SV → Option (IntKind × Int)
  | .int k n => some (k, n)
  | _ => none

/-- A row of integers, at a place. -/
def selI (l : List Int) (n : Nat) : Int := l.getD n 0
def intsOf : List SV → Option (List Int)
  | [] => some []
  | .int .i64 n :: xs => match intsOf xs with
    | some l => some (n :: l)
    | none => none
  | _ => none
def rowAt (l : List Int) : Nat → Nat → List SV
  | _, 0 => []
  | o, k + 1 => .int .i64 (selI l o) :: rowAt l (o + 1) k
theorem intsOf_eq : ∀ {cs : List SV} {l : List Int}, intsOf cs = some l → cs = l.map SI
  | [], l, h => by cases h; rfl
  | .int .i64 n :: xs, l, h => by
    simp only [intsOf] at h
    split at h
    · rename_i l' hl; cases h; rw [intsOf_eq hl]; rfl
    · cases h
theorem rowAt_eq {l : List Int} : ∀ (k o : Nat), o + k ≤ l.length → rowAt l o k = ((l.map SI).drop o).take k
  | 0, o, _ => by simp [rowAt]
  | k + 1, o, h => by
    have ho : o < (l.map SI).length := by simp; omega
    rw [rowAt, List.drop_eq_getElem_cons ho, List.take_succ_cons, rowAt_eq k (o + 1) (by omega)]
    simp [selI, List.getD, show o < l.length by omega]

def pureS (P : Program) (E : Eqs) (ck : Bool) (o : Op) (r : Operand → SV) : Option (List Prop × SV) :=
  match o with
  | .move x | .assign x => some ((r x).grd, (r x).strip)
  | .pick c a b =>
    match (r c).strip, (r a).strip, (r b).strip with
    | .bool cb, .bool p, .bool q => some ((r c).grd ++ gimp (cb = true) (r a).grd ++ gimp (cb = false) (r b).grd, .bool (bif cb then p else q))
    | .bool cb, .int k p, .int k' q => if k = k' then some ((r c).grd ++ gimp (cb = true) (r a).grd ++ gimp (cb = false) (r b).grd, .int k (bif cb then p else q)) else none
    | _, _, _ => none
  | .fieldAddr T x f =>
    match tyOf P T with
    | some t =>
      match t.kind, t.offs[f]? with
      | 1, some (o, U) =>
        match tyOf P U with
        | some u =>
          if u.size = 0 then none else
          match (r x).strip with
          | .ptr i off => some ((r x).grd, .ptr i (off + o))
          | .rptr i s n j => some ((r x).grd, .rptr i s n (j + o))
          | .sptr s n f k j => some ((r x).grd, .sptr s n f k (j + o))
          | _ => none
        | none => none
      | _, _ => none
    | none => none
  | .nilCheck x =>
    match (r x).strip with
    | .ptr i off => some ((r x).grd, .ptr i off)
    | .rptr i s n j => some ((r x).grd, .rptr i s n j)
    | .sptr s n f k j => some ((r x).grd, .sptr s n f k j)
    | .fn f xs cs => some ((r x).grd, .fn f xs cs)
    | .lit (.func (.func f) xs cs) => some ((r x).grd, .lit (.func (.func f) xs cs))
    | _ => none
  | .binOp op T x y _ => (binS P E ck op T (r x).strip (r y).strip).map fun q => ((r x).grd ++ ((r y).grd ++ q.1), q.2)
  | .unOp op _ x =>
    match op, (r x).strip with
    | .neg, .int k n =>
      match ck, k with
      | true, .i64 => some ((r x).grd ++ [R64 (-n)], .int .i64 (-n))
      | _, k => some ((r x).grd, .int k (k.wrap (0 - n)))
    | .not, .bool b => some ((r x).grd, .bool (!b))
    | _, _ => none
  | .convert S T x =>
    match tyOf P S, tyOf P T, (r x).strip with
    | some _, some t, .int _ n => if t.kind = 5 then some ((r x).grd ++ (arith ck t.ik n).1, (arith ck t.ik n).2) else none
    | _, _, _ => none
  | .makeFunc (.func f) first cap => some ((first.toList.flatMap fun x => (r x).grd) ++ (cap.toList.flatMap fun x => (r x).grd), .fn f (first.toList.map fun x => (r x).strip) (cap.toList.map fun x => (r x).strip))
  | .extract x k =>
    match (r x).strip with
    | .tup cs => (cs[k]?).map fun c => ((r x).grd, c)
    | _ => none
  | .field T x f =>
    match tyOf P T, (r x).strip with
    | some t, .agg cs =>
      match t.kind, t.offs[f]? with
      | 1, some (o, U) =>
        match tyOf P U with
        | some u => if o + (if u.agg then u.size else 1) ≤ cs.length then some ((r x).grd, if u.agg then .agg ((cs.drop o).take u.size) else cs.getD o .top) else none
        | none => none
      | _, _ => none
    | _, _ => none
  | .index T x i =>
    match tyOf P T, (r x).strip, (r i).strip with
    | some t, .agg cs, .int _ n =>
      match tyOf P t.elem, intsOf cs with
      | some e, some l =>
        if t.kind = 2 then
          if e.agg then some ((r x).grd ++ ((r i).grd ++ [0 ≤ n, n < t.len, n.toNat * e.size + e.size ≤ cs.length]), .agg (rowAt l (n.toNat * e.size) e.size))
          else some ((r x).grd ++ ((r i).grd ++ [0 ≤ n, n < t.len, n.toNat * e.size + 1 ≤ cs.length]), .int .i64 (selI l (n.toNat * e.size)))
        else none
      | _, _ => none
    | _, _, _ => none
  | .indexAddr T x i =>
    match tyOf P T, (r i).strip with
    | some t, .int _ n =>
      match tyOf P t.elem with
      | some e =>
        if t.kind = 3 then
          match (r x).strip with
          | .sl sz m f => if sz = e.size then some ((r x).grd ++ ((r i).grd ++ [0 ≤ n, n < m]), .sptr sz m f n.toNat 0) else none
          | .vec k sz lo len => if sz = e.size then some ((r x).grd ++ ((r i).grd ++ [0 ≤ n, n < len]), .rptr k sz (lo + n.toNat) 0) else none
          | _ => none
        else if t.kind = 2 then
          match (r x).strip with
          | .ptr k off => some ((r x).grd ++ ((r i).grd ++ [0 ≤ n, n < t.len]), .ptr k (off + n.toNat * e.size))
          | .sptr s m f k j => some ((r x).grd ++ ((r i).grd ++ [0 ≤ n, n < t.len]), .sptr s m f k (j + n.toNat * e.size))
          | _ => none
        else none
      | none => none
    | _, _ => none
  | .call { callee := .builtin .len, args, argTypes } =>
    match args.toList, argTypes.toList with
    | [x], [T] =>
      match tyOf P T with
      | some t =>
        if t.kind = 3 then (lenS (r x).strip).map fun n => ((r x).grd, SI n)
        else if t.kind = 2 then
          match (r x).strip with
          | .agg _ => some ((r x).grd, SI t.len)
          | _ => none
        else none
      | none => none
    | _, _ => none
  | .call { callee := .builtin .max, args, .. } =>
    match args.toList with
    | [x, y] =>
      match (r x).strip, (r y).strip with
      | .int k a, .int _ b => some ((r x).grd ++ (r y).grd, .int k (max a b))
      | _, _ => none
    | [x, y, z] =>
      match (r x).strip, (r y).strip, (r z).strip with
      | .int k a, .int _ b, .int _ c => some ((r x).grd ++ ((r y).grd ++ (r z).grd), .int k (max (max a b) c))
      | _, _, _ => none
    | _ => none
  | .call { callee := .builtin .min, args, .. } =>
    match args.toList with
    | [x, y] =>
      match (r x).strip, (r y).strip with
      | .int k a, .int _ b => some ((r x).grd ++ (r y).grd, .int k (min a b))
      | _, _ => none
    | [x, y, z] =>
      match (r x).strip, (r y).strip, (r z).strip with
      | .int k a, .int _ b, .int _ c => some ((r x).grd ++ ((r y).grd ++ (r z).grd), .int k (min (min a b) c))
      | _, _, _ => none
    | _ => none
  | _ => none

theorem denL_map (l : List Operand) (r : Operand → SV) : SV.denL (l.map fun x => (r x).strip) = l.map fun x => strip (r x).den := by
  rw [denL_eq, List.map_map]; exact List.map_congr_left (fun x _ => (den_strip _).symm)
theorem denL_getElem (cs : List SV) (k : Nat) : (SV.denL cs)[k]? = (cs[k]?).map SV.den := by rw [denL_eq]; simp
theorem denL_getD (cs : List SV) (k : Nat) : (SV.denL cs).getD k .top = (cs.getD k .top).den := by
  simp only [List.getD, denL_getElem]
  cases cs[k]? <;> simp [SV.den]
theorem denL_slice (cs : List SV) (o n : Nat) : ((SV.denL cs).drop o).take n = SV.denL ((cs.drop o).take n) := by
  simp only [denL_eq, List.map_take, List.map_drop]
theorem grd_all {ops : Array Operand} {r : Operand → SV} (h : AllP (ops.toList.flatMap fun x => (r x).grd)) : ∀ x ∈ ops, grd (r x).den = true := fun x hx =>
  den_grd (fun p hp => h p (List.mem_flatMap.2 ⟨x, by simpa using hx, hp⟩))

section
variable {P : Program} {E : Eqs} (hE : EqsOK P E) {ck : Bool} {r : Operand → SV}
include hE

set_option maxHeartbeats 2000000 in
theorem pureS_sound {o : Op} {ps : List Prop} {z : SV} (h : pureS P E ck o r = some (ps, z)) (hp : AllP ps) : ∃ c z', absPure P o (fun x => (r x).den) = some (c, z') ∧ c ∧ z'.le z.den := by
  cases o <;> simp only [pureS, reduceCtorEq] at h <;> simp only [absPure]
  case move x => cases h; exact ⟨_, _, rfl, den_grd hp, by rw [den_strip]; exact .refl _⟩
  case assign x => cases h; exact ⟨_, _, rfl, den_grd hp, by rw [den_strip]; exact .refl _⟩
  case pick c a b =>
    split at h
    · rename_i cb p q h1 h2 h3
      cases h
      obtain ⟨hp1, hp3⟩ := AllP.app.1 hp
      obtain ⟨hp1, hp2⟩ := AllP.app.1 hp1
      simp only [den_strip, h1, h2, h3, SV.den, mkIf, Option.map_some]
      exact ⟨_, _, rfl, ⟨den_grd hp1, fun e => den_grd (gimp_all hp2 e), fun e => den_grd (gimp_all hp3 e)⟩, .refl _⟩
    · rename_i cb k p k' q h1 h2 h3
      split at h
      · rename_i hk
        subst hk
        cases h
        obtain ⟨hp1, hp3⟩ := AllP.app.1 hp
        obtain ⟨hp1, hp2⟩ := AllP.app.1 hp1
        simp only [den_strip, h1, h2, h3, SV.den, mkIf, if_true, Option.map_some]
        exact ⟨_, _, rfl, ⟨den_grd hp1, fun e => den_grd (gimp_all hp2 e), fun e => den_grd (gimp_all hp3 e)⟩, .refl _⟩
      · cases h
    · cases h
  case fieldAddr T x f =>
    split at h
    · rename_i t ht
      split at h
      · rename_i o U hk hf
        split at h
        · rename_i u hu
          split at h
          · cases h
          · rename_i hs
            simp only [ht, hk, hf, hu, hs, if_false, den_strip]
            split at h <;> first | (rename_i hx; cases h; simp only [hx, SV.den]; exact ⟨_, _, rfl, den_grd hp, .refl _⟩) | cases h
        · cases h
      · cases h
    · cases h
  case nilCheck x =>
    simp only [den_strip]
    split at h <;> first | (rename_i hx; cases h; simp only [hx, SV.den]; exact ⟨_, _, rfl, den_grd hp, .refl _⟩) | cases h
  case binOp op T x y U =>
    simp only [Option.map_eq_some_iff, Prod.mk.injEq] at h
    obtain ⟨⟨ps', z'⟩, h1, rfl, rfl⟩ := h
    obtain ⟨hp1, hp2⟩ := AllP.app.1 hp
    obtain ⟨hp2, hp3⟩ := AllP.app.1 hp2
    obtain ⟨c, g1, g2⟩ := binS_sound hE h1 hp3
    simp only [den_strip, g1, Option.map_some]
    exact ⟨_, _, rfl, ⟨den_grd hp1, den_grd hp2, g2⟩, .refl _⟩
  case unOp op T x =>
    split at h
    · rename_i k n hx
      simp only [den_strip, hx, SV.den]
      split at h
      · cases h
        obtain ⟨hp1, hp2⟩ := AllP.app.1 hp
        refine ⟨_, _, rfl, den_grd hp1, ?_⟩
        have h2 : R64 (-n) := hp2 _ (List.mem_singleton.2 rfl)
        rw [show (0 : Int) - n = -n by omega, wrap_R64 h2]; exact .refl _
      · cases h
        exact ⟨_, _, rfl, den_grd hp, .refl _⟩
    · rename_i b hx
      cases h
      simp only [den_strip, hx, SV.den]
      exact ⟨_, _, rfl, den_grd hp, .refl _⟩
    · cases h
  case convert S T x =>
    split at h
    · rename_i s t k n hs ht hx
      split at h
      · rename_i hk
        cases h
        obtain ⟨hp1, hp2⟩ := AllP.app.1 hp
        simp only [hs, ht, den_strip, hx, SV.den, hk, if_true]
        refine ⟨_, _, rfl, den_grd hp1, ?_⟩
        rw [arith_den hp2]; exact .refl _
      · cases h
    · cases h
  case makeFunc f first cap =>
    cases f <;> simp only [reduceCtorEq] at h
    cases h
    obtain ⟨hp1, hp2⟩ := AllP.app.1 hp
    refine ⟨_, _, rfl, ⟨grd_all hp1, grd_all hp2⟩, ?_⟩
    simp only [SV.den, denL_map]; exact .refl _
  case extract x k =>
    split at h
    · rename_i cs hx
      simp only [Option.map_eq_some_iff, Prod.mk.injEq] at h
      obtain ⟨c, hc, rfl, rfl⟩ := h
      simp only [den_strip, hx, SV.den, denL_getElem, hc, Option.map_some]
      exact ⟨_, _, rfl, den_grd hp, .refl _⟩
    · cases h
  case field T x f =>
    split at h
    · rename_i t cs ht hx
      simp only [ht, den_strip, hx, SV.den]
      split at h
      · rename_i o U hk hf
        simp only [hk, hf]
        split at h
        · rename_i u hu
          simp only [hu]
          by_cases hl : o + (if u.agg then u.size else 1) ≤ cs.length
          · rw [if_pos hl] at h
            cases h
            refine ⟨_, _, rfl, ⟨den_grd hp, by rw [denL_length]; exact hl⟩, ?_⟩
            cases u.agg
            · simp only [Bool.false_eq_true, if_false, denL_getD]; exact .refl _
            · simp only [if_true, SV.den, denL_slice]; exact .refl _
          · rw [if_neg hl] at h; cases h
        · cases h
      · cases h
    · cases h
  case index T x i =>
    split at h
    · rename_i t cs k n ht hx hi
      simp only [ht, den_strip, hx, hi, SV.den]
      split at h
      · rename_i e l he hl
        have hcs := intsOf_eq hl
        simp only [he]
        split at h
        · rename_i hk
          simp only [hk, if_true]
          split at h
          · rename_i ha
            cases h
            obtain ⟨hp1, hp2⟩ := AllP.app.1 hp
            obtain ⟨hp2, hp3⟩ := AllP.app.1 hp2
            have h1 := hp3 (0 ≤ n) (by simp)
            have h2 := hp3 (n < t.len) (by simp)
            have h3 := hp3 (n.toNat * e.size + e.size ≤ cs.length) (by simp)
            simp only [ha, if_true, denL_slice]
            refine ⟨_, _, rfl, ⟨den_grd hp1, den_grd hp2, h1, h2, by rw [denL_length]; exact h3⟩, ?_⟩
            subst hcs
            rw [rowAt_eq _ _ (by simpa using h3)]
            exact .refl _
          · rename_i ha
            cases h
            obtain ⟨hp1, hp2⟩ := AllP.app.1 hp
            obtain ⟨hp2, hp3⟩ := AllP.app.1 hp2
            have h1 := hp3 (0 ≤ n) (by simp)
            have h2 := hp3 (n < t.len) (by simp)
            have h3 := hp3 (n.toNat * e.size + 1 ≤ cs.length) (by simp)
            simp only [ha, if_false, Bool.false_eq_true, denL_getD]
            refine ⟨_, _, rfl, ⟨den_grd hp1, den_grd hp2, h1, h2, by rw [denL_length]; exact h3⟩, ?_⟩
            subst hcs
            have h4 : n.toNat * e.size < l.length := by simp at h3; omega
            simp only [List.getD, List.getElem?_map, List.getElem?_eq_getElem h4, Option.map_some, Option.getD_some, selI, SV.den]
            exact .refl _
        · cases h
      · cases h
    · cases h
  case indexAddr T x i =>
    split at h
    · rename_i t k n ht hi
      simp only [ht, den_strip, hi, SV.den]
      split at h
      · rename_i e he
        simp only [he]
        split at h
        · rename_i hk
          simp only [hk, if_true]
          split at h
          · rename_i sz m f hx
            split at h
            · rename_i hs
              cases h
              obtain ⟨hp1, hp2⟩ := AllP.app.1 hp
              obtain ⟨hp2, hp3⟩ := AllP.app.1 hp2
              simp only [hx, SV.den, hs, if_true]
              refine ⟨_, _, rfl, ⟨den_grd hp1, den_grd hp2, hp3 _ (by simp), ?_⟩, .refl _⟩
              have := hp3 (n < m) (by simp)
              simpa using this
            · cases h
          · rename_i b sz lo len hx
            split at h
            · rename_i hs
              cases h
              obtain ⟨hp1, hp2⟩ := AllP.app.1 hp
              obtain ⟨hp2, hp3⟩ := AllP.app.1 hp2
              simp only [hx, SV.den, hs, if_true]
              exact ⟨_, _, rfl, ⟨den_grd hp1, den_grd hp2, hp3 _ (by simp), hp3 _ (by simp)⟩, .refl _⟩
            · cases h
          · cases h
        · rename_i hk
          split at h
          · rename_i hk2
            simp only [hk2, if_true]
            rw [if_neg (by decide)]
            split at h
            · rename_i b off hx
              cases h
              obtain ⟨hp1, hp2⟩ := AllP.app.1 hp
              obtain ⟨hp2, hp3⟩ := AllP.app.1 hp2
              simp only [hx, SV.den]
              exact ⟨_, _, rfl, ⟨den_grd hp1, den_grd hp2, hp3 _ (by simp), hp3 _ (by simp)⟩, .refl _⟩
            · rename_i s m f k j hx
              cases h
              obtain ⟨hp1, hp2⟩ := AllP.app.1 hp
              obtain ⟨hp2, hp3⟩ := AllP.app.1 hp2
              simp only [hx, SV.den]
              exact ⟨_, _, rfl, ⟨den_grd hp1, den_grd hp2, hp3 _ (by simp), hp3 _ (by simp)⟩, .refl _⟩
            · cases h
          · cases h
      · cases h
    · cases h
  case call cl =>
    obtain ⟨callee, args, argTypes⟩ := cl
    cases callee with
    | value f => simp at h
    | invoke a b => simp at h
    | builtin b =>
      cases b <;> simp only [reduceCtorEq] at h ⊢
      case len =>
        split at h
        · rename_i x T ha hT
          simp only [ha, hT]
          split at h
          · rename_i t ht
            simp only [ht]
            split at h
            · rename_i hk
              simp only [Option.map_eq_some_iff, Prod.mk.injEq] at h
              obtain ⟨n, hn, rfl, rfl⟩ := h
              unfold lenS at hn
              split at hn <;> cases hn <;> (rename_i hx; simp only [den_strip, hx, SV.den, hk, if_true]; first | exact ⟨_, _, rfl, den_grd hp, .refl _⟩ | exact ⟨_, _, rfl, den_grd hp, by simp only [List.length_map, List.length_range]; exact .refl _⟩)
            · rename_i hk
              split at h
              · rename_i hk2
                split at h
                · rename_i cs hx
                  cases h
                  simp only [den_strip, hx, SV.den, hk2, if_true]
                  exact ⟨_, _, rfl, den_grd hp, .refl _⟩
                · cases h
              · cases h
          · cases h
        · cases h
      case max =>
        split at h
        · rename_i x y ha
          simp only [ha]
          split at h
          · rename_i hx hy
            cases h
            obtain ⟨hp1, hp2⟩ := AllP.app.1 hp
            simp only [den_strip, hx, hy, SV.den]
            exact ⟨_, _, rfl, ⟨den_grd hp1, den_grd hp2⟩, .refl _⟩
          · cases h
        · rename_i x y z ha
          simp only [ha]
          split at h
          · rename_i hx hy hz
            cases h
            obtain ⟨hp1, hp2⟩ := AllP.app.1 hp
            obtain ⟨hp2, hp3⟩ := AllP.app.1 hp2
            simp only [den_strip, hx, hy, hz, SV.den]
            exact ⟨_, _, rfl, ⟨den_grd hp1, den_grd hp2, den_grd hp3⟩, .refl _⟩
          · cases h
        · cases h
      case min =>
        split at h
        · rename_i x y ha
          simp only [ha]
          split at h
          · rename_i hx hy
            cases h
            obtain ⟨hp1, hp2⟩ := AllP.app.1 hp
            simp only [den_strip, hx, hy, SV.den]
            exact ⟨_, _, rfl, ⟨den_grd hp1, den_grd hp2⟩, .refl _⟩
          · cases h
        · rename_i x y z ha
          simp only [ha]
          split at h
          · rename_i hx hy hz
            cases h
            obtain ⟨hp1, hp2⟩ := AllP.app.1 hp
            obtain ⟨hp2, hp3⟩ := AllP.app.1 hp2
            simp only [den_strip, hx, hy, hz, SV.den]
            exact ⟨_, _, rfl, ⟨den_grd hp1, den_grd hp2, den_grd hp3⟩, .refl _⟩
          · cases h
        · cases h
end
end Go.Proofs.Ytkklmkogdogbkaa.Sep
