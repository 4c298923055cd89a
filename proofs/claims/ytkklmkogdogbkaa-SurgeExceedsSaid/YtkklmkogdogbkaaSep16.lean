/-
  The small calculus, sixteenth part: symbolic values, which the kernel can compute with. No condition. (This text proves no statement by itself.)
-/
import Derived.Test.YtkklmkogdogbkaaSep15
namespace Go.Proofs.Ytkklmkogdogbkaa.Sep
open Go
set_option linter.unusedVariables false
set_option linter.unusedSimpArgs false

/-- Symbolic values: a slice is its length and what lies at each index. -/
inductive SV where
  | top
  | lit (v : Value)
  | int (k : IntKind) (n : Int)
  | bool (b : Bool)
  | ptr (i off : Nat)
  | rptr (i sz n j : Nat)
  | vec (i sz lo len : Nat)
  | sl (sz n : Nat) (f : Nat → List SV)
  | sptr (sz n : Nat) (f : Nat → List SV) (k j : Nat)
  | agg (cs : List SV)
  | tup (cs : List SV)
  | fn (f : FuncId) (first cap : List SV)
  | when (g : Bool) (x : SV)

abbrev SI (n : Int) : SV := .int .i64 n

mutual
def SV.den : SV → AV
  | .top => .top
  | .lit v => .lit v
  | .int k n => .lit (.int k n)
  | .bool b => .lit (.bool b)
  | .ptr i off => .ptr i off
  | .rptr i sz n j => .rptr i sz n j
  | .vec i sz lo len => .vec i sz lo len
  | .sl sz n f => .vsl sz ((List.range n).map fun k => SV.denL (f k))
  | .sptr sz n f k j => .vptr sz ((List.range n).map fun k => SV.denL (f k)) k j
  | .agg cs => .agg (SV.denL cs)
  | .tup cs => .tup (SV.denL cs)
  | .fn f xs cs => .fn (.func f) (SV.denL xs) (SV.denL cs)
  | .when g x => .when g (SV.den x)
def SV.denL : List SV → List AV
  | [] => []
  | c :: cs => SV.den c :: SV.denL cs
end

theorem denL_eq : ∀ cs : List SV, SV.denL cs = cs.map SV.den
  | [] => by simp [SV.denL]
  | c :: cs => by simp [SV.denL, denL_eq cs]

abbrev rowsOf (n : Nat) (f : Nat → List SV) : List (List AV) := (List.range n).map fun k => SV.denL (f k)
theorem rowsOf_get {n : Nat} {f : Nat → List SV} {k : Nat} : (rowsOf n f)[k]? = if k < n then some (SV.denL (f k)) else none := by
  simp only [rowsOf, List.getElem?_map]
  by_cases h : k < n
  · rw [List.getElem?_range h, if_pos h]; rfl
  · rw [if_neg h, List.getElem?_eq_none (by simpa using h)]; rfl
theorem rowsOf_getD {n : Nat} {f : Nat → List SV} {k : Nat} (h : k < n) : (rowsOf n f).getD k [] = SV.denL (f k) := by
  simp [List.getD, rowsOf_get, h]
theorem rowsOf_length {n : Nat} {f : Nat → List SV} : (rowsOf n f).length = n := by simp [rowsOf]

def ofVal : Value → SV
  | .int k n => .int k n
  | .bool b => .bool b
  | v => .lit v
theorem den_ofVal (v : Value) : (ofVal v).den = .lit v := by cases v <;> simp [ofVal, SV.den]

def SV.strip : SV → SV
  | .when _ y => y
  | x => x
/-- What must hold for a value to be there. -/
def SV.grd : SV → List Prop
  | .when g _ => [g = true]
  | _ => []
theorem den_strip (x : SV) : strip x.den = x.strip.den := by cases x <;> simp [SV.den, SV.strip, Sep.strip]
theorem den_grd {x : SV} (h : ∀ p ∈ x.grd, p) : grd x.den = true := by
  cases x <;> simp only [SV.den, Sep.grd]
  exact h _ (by simp [SV.grd])

def SV.scalar : SV → Bool
  | .lit v => v.oneCell'
  | .int .. | .bool _ | .ptr .. | .rptr .. | .vec .. | .sl .. | .sptr .. | .fn .. => true
  | _ => false
def SV.closed : SV → Bool
  | .lit _ | .int .. | .bool _ | .sl .. | .sptr .. => true
  | _ => false
theorem den_scalar {x : SV} : x.den.scalar = x.scalar := by cases x <;> simp [SV.den, SV.scalar, AV.scalar, Value.oneCell']
theorem den_closed {x : SV} : x.den.closed = x.closed := by cases x <;> simp [SV.den, SV.closed, AV.closed]
theorem denL_all_scalar (cs : List SV) : (SV.denL cs).all AV.scalar = cs.all SV.scalar := by
  rw [denL_eq, List.all_map]; congr 1; funext x; exact den_scalar
theorem denL_all_closed (cs : List SV) : (SV.denL cs).all AV.closed = cs.all SV.closed := by
  rw [denL_eq, List.all_map]; congr 1; funext x; exact den_closed
theorem denL_length (cs : List SV) : (SV.denL cs).length = cs.length := by rw [denL_eq]; simp

def SV.cells? : SV → Option (List SV)
  | .agg cs => some cs
  | .lit (.agg vs) => some (vs.toList.map ofVal)
  | .lit (.tuple _) => none
  | .tup _ | .when .. | .top => none
  | x => some [x]
theorem den_cells {x : SV} {cs : List SV} (h : x.cells? = some cs) : cellsOf? x.den = some (SV.denL cs) := by
  cases x with
  | lit v =>
    cases v <;> simp only [SV.cells?, Option.some.injEq, reduceCtorEq] at h <;> subst h <;> simp [SV.den, cellsOf?, SV.denL]
    rw [denL_eq, List.map_map]
    exact List.map_congr_left (fun v _ => (den_ofVal v).symm)
  | _ => simp only [SV.cells?, Option.some.injEq, reduceCtorEq] at h <;> subst h <;> simp [SV.den, cellsOf?, SV.denL]

/-- Rows of abstract values of which the second says less. -/
def LeL : List AV → List AV → Prop
  | [], [] => True
  | x :: xs, y :: ys => x.le y ∧ LeL xs ys
  | _, _ => False
theorem LeL.refl : ∀ l : List AV, LeL l l
  | [] => trivial
  | x :: xs => ⟨.refl x, LeL.refl xs⟩
theorem LeL.len : ∀ {xs ys : List AV}, LeL xs ys → xs.length = ys.length
  | [], [], _ => rfl
  | _ :: _, _ :: _, h => by simp [h.2.len]
  | [], _ :: _, h => h.elim
  | _ :: _, [], h => h.elim
theorem LeL.get : ∀ {xs ys : List AV}, LeL xs ys → ∀ {k : Nat} {y : AV}, ys[k]? = some y → ∃ x, xs[k]? = some x ∧ x.le y
  | [], [], _, k, y, h => by simp at h
  | x :: xs, y :: ys, h, k, z, hk => by
    cases k with
    | zero => simp at hk; subst hk; exact ⟨x, by simp, h.1⟩
    | succ k => simp at hk; obtain ⟨x', h1, h2⟩ := h.2.get hk; exact ⟨x', by simpa using h1, h2⟩
  | [], _ :: _, h, _, _, _ => h.elim
  | _ :: _, [], h, _, _, _ => h.elim
theorem LeL.of {xs ys : List AV} (hl : xs.length = ys.length) (h : ∀ (k : Nat) x y, xs[k]? = some x → ys[k]? = some y → x.le y) : LeL xs ys := by
  induction xs generalizing ys with
  | nil => cases ys with | nil => trivial | cons y ys => simp at hl
  | cons x xs ih =>
    cases ys with
    | nil => simp at hl
    | cons y ys => exact ⟨h 0 x y rfl rfl, ih (by simpa using hl) (fun k x' y' h1 h2 => h (k + 1) x' y' (by simpa using h1) (by simpa using h2))⟩

theorem AV.le.top (x : AV) : x.le .top := fun _ _ _ v _ => .top v
theorem AV.le.agg {xs ys : List AV} (h : LeL xs ys) : (AV.agg xs).le (.agg ys) := fun S w ρ v hv => by
  obtain ⟨vs, rfl, h1, h2⟩ := hv.agg_inv
  refine .agg (by rw [h1, h.len]) (fun k c u e1 e2 => ?_)
  obtain ⟨x, hx, hle⟩ := h.get e1
  exact hle _ _ _ _ (h2 k x u hx e2)
theorem AV.le.tup {xs ys : List AV} (h : LeL xs ys) : (AV.tup xs).le (.tup ys) := fun S w ρ v hv => by
  obtain ⟨vs, rfl, h1, h2⟩ := hv.tup_inv
  refine .tup (by rw [h1, h.len]) (fun k c u e1 e2 => ?_)
  obtain ⟨x, hx, hle⟩ := h.get e1
  exact hle _ _ _ _ (h2 k x u hx e2)
theorem AV.le.when {g : Bool} {x y : AV} (h : x.le y) : (AV.when g x).le (.when g y) := fun S w ρ v hv => by
  cases hv with
  | when h1 h2 => exact .when (fun e => h _ _ _ _ (h1 e)) h2
/-- Rows of rows. -/
def LeLL (xs ys : List (List AV)) : Prop := xs.length = ys.length ∧ ∀ (k : Nat) x y, xs[k]? = some x → ys[k]? = some y → LeL x y
theorem AV.le.vsl {sz : Nat} {xs ys : List (List AV)} (h : LeLL xs ys) : (AV.vsl sz xs).le (.vsl sz ys) := fun S w ρ v hv => by
  obtain ⟨hl, h⟩ := h
  have row : ∀ (k : Nat) cs, ys[k]? = some cs → ∃ x, xs[k]? = some x ∧ LeL x cs := fun k cs e => by
    have hk : k < xs.length := by rw [hl]; exact (List.getElem?_eq_some_iff.1 e).1
    exact ⟨xs[k], by simp, h k _ _ (by simp) e⟩
  cases hv with
  | vslNil =>
    cases ys with
    | nil => exact .vslNil
    | cons y ys => simp at hl
  | vsl vs hc hS hz hv hr =>
    rw [hl] at hc ⊢
    refine .vsl vs hc hS (fun k cs e => ?_) (fun k j cs c e1 e2 => ?_) (fun k j cs c e1 e2 => ?_)
    · obtain ⟨x, h1, h2⟩ := row k cs e
      rw [← h2.len]; exact hz k x h1
    · obtain ⟨x, h1, h2⟩ := row k cs e1
      obtain ⟨c', h3, -⟩ := h2.get e2
      exact hv k j x c' h1 h3
    · obtain ⟨x, h1, h2⟩ := row k cs e1
      obtain ⟨c', h3, h4⟩ := h2.get e2
      exact h4 _ _ _ _ (hr k j x c' h1 h3)
theorem Blk.le.cells {xs ys : List AV} (h : LeL xs ys) : (Blk.cells xs).le (.cells ys) := ⟨fun _ => rfl, fun S w ρ o hb => by
  obtain ⟨n, vs, T, rfl, h1, h2, h3⟩ := hb
  refine ⟨n, vs, T, rfl, h1, by rw [h2, h.len], fun k c v e1 e2 => ?_⟩
  obtain ⟨x, hx, hle⟩ := h.get e1
  exact hle _ _ _ _ (h3 k x v hx e2)⟩
theorem Blk.le.row {sz : Nat} {xs ys : List (List AV)} (h : LeLL xs ys) : (Blk.row sz xs).le (.row sz ys) := ⟨fun _ => rfl, fun S w ρ o hb => by
  obtain ⟨hl, h⟩ := h
  have row : ∀ (k : Nat) cs, ys[k]? = some cs → ∃ x, xs[k]? = some x ∧ LeL x cs := fun k cs e => by
    have hk : k < xs.length := by rw [hl]; exact (List.getElem?_eq_some_iff.1 e).1
    exact ⟨xs[k], by simp, h k _ _ (by simp) e⟩
  obtain ⟨h0, hz, hb⟩ := hb
  refine ⟨h0, fun k cs e => ?_, ?_⟩
  · obtain ⟨x, h1, h2⟩ := row k cs e
    rw [← h2.len]; exact hz k x h1
  · rcases hb with ⟨h1, h2⟩ | ⟨n, vs, T, h1, h2, h3⟩
    · refine .inl ⟨h1, ?_⟩
      subst h2
      exact List.eq_nil_of_length_eq_zero (by simpa using hl.symm)
    · refine .inr ⟨n, vs, T, h1, h2, fun k j cs c e1 e2 => ?_⟩
      obtain ⟨x, g1, g2⟩ := row k cs e1
      obtain ⟨c', g3, g4⟩ := g2.get e2
      obtain ⟨v, g5, g6⟩ := h3 k j x c' g1 g3
      exact ⟨v, g5, g4 _ _ _ _ g6⟩⟩

mutual
/-- The one value or the other. -/
def SV.merge (b : Bool) : SV → SV → SV
  | .int k p, .int k' q => if k = k' then .int k (bif b then p else q) else .top
  | .bool p, .bool q => .bool (bif b then p else q)
  | .agg xs, .agg ys => if xs.length = ys.length then .agg (SV.mergeL b xs ys) else .top
  | .tup xs, .tup ys => if xs.length = ys.length then .tup (SV.mergeL b xs ys) else .top
  | .sl s n f, .sl s' n' g => if s = s' then .sl s (bif b then n else n') (fun k => SV.mergeL b (f k) (g k)) else .top
  | _, _ => .top
def SV.mergeL (b : Bool) : List SV → List SV → List SV
  | [], [] => []
  | [], y :: ys => bif b then [] else y :: ys
  | x :: xs, [] => bif b then x :: xs else []
  | x :: xs, y :: ys => if xs.length = ys.length then SV.merge b x y :: SV.mergeL b xs ys else bif b then x :: xs else y :: ys
end

mutual
theorem merge_true : ∀ (x y : SV), x.den.le (SV.merge true x y).den
  | .int k p, y => by
    cases y <;> simp only [SV.merge] <;> try exact AV.le.top _
    split
    · exact AV.le.refl _
    · exact AV.le.top _
  | .bool p, y => by
    cases y <;> simp only [SV.merge] <;> first | exact AV.le.top _ | exact AV.le.refl _
  | .agg xs, y => by
    cases y <;> simp only [SV.merge] <;> try exact AV.le.top _
    split
    · simp only [SV.den]; exact AV.le.agg (mergeL_true _ _)
    · exact AV.le.top _
  | .tup xs, y => by
    cases y <;> simp only [SV.merge] <;> try exact AV.le.top _
    split
    · simp only [SV.den]; exact AV.le.tup (mergeL_true _ _)
    · exact AV.le.top _
  | .sl s n f, y => by
    cases y <;> simp only [SV.merge] <;> try exact AV.le.top _
    split
    · simp only [SV.den, cond_true]
      refine AV.le.vsl ⟨by simp, fun k a b h1 h2 => ?_⟩
      rw [← rowsOf, rowsOf_get] at h1 h2
      split at h1
      · rename_i hk; rw [if_pos hk] at h2; cases h1; cases h2; exact mergeL_true _ _
      · cases h1
    · exact AV.le.top _
  | .top, y => by simp only [SV.merge]; exact AV.le.top _
  | .lit _, y => by simp only [SV.merge]; exact AV.le.top _
  | .ptr .., y => by simp only [SV.merge]; exact AV.le.top _
  | .rptr .., y => by simp only [SV.merge]; exact AV.le.top _
  | .vec .., y => by simp only [SV.merge]; exact AV.le.top _
  | .sptr .., y => by simp only [SV.merge]; exact AV.le.top _
  | .fn .., y => by simp only [SV.merge]; exact AV.le.top _
  | .when .., y => by simp only [SV.merge]; exact AV.le.top _
theorem mergeL_true : ∀ (xs ys : List SV), LeL (SV.denL xs) (SV.denL (SV.mergeL true xs ys))
  | [], [] => by simp only [SV.mergeL]; exact LeL.refl _
  | [], y :: ys => by simp only [SV.mergeL, cond_true]; exact LeL.refl _
  | x :: xs, [] => by simp only [SV.mergeL, cond_true]; exact LeL.refl _
  | x :: xs, y :: ys => by
    simp only [SV.mergeL, cond_true]
    split
    · simp only [SV.denL]; exact ⟨merge_true x y, mergeL_true xs ys⟩
    · exact LeL.refl _
end
mutual
theorem merge_false : ∀ (x y : SV), y.den.le (SV.merge false x y).den
  | .int k p, y => by
    cases y <;> simp only [SV.merge] <;> try exact AV.le.top _
    split
    · rename_i h; rw [h]; exact AV.le.refl _
    · exact AV.le.top _
  | .bool p, y => by
    cases y <;> simp only [SV.merge] <;> first | exact AV.le.top _ | exact AV.le.refl _
  | .agg xs, y => by
    cases y <;> simp only [SV.merge] <;> try exact AV.le.top _
    split
    · simp only [SV.den]; exact AV.le.agg (mergeL_false _ _)
    · exact AV.le.top _
  | .tup xs, y => by
    cases y <;> simp only [SV.merge] <;> try exact AV.le.top _
    split
    · simp only [SV.den]; exact AV.le.tup (mergeL_false _ _)
    · exact AV.le.top _
  | .sl s n f, y => by
    cases y <;> simp only [SV.merge] <;> try exact AV.le.top _
    split
    · rename_i h; subst h
      simp only [SV.den, cond_false]
      refine AV.le.vsl ⟨by simp, fun k a b h1 h2 => ?_⟩
      rw [← rowsOf, rowsOf_get] at h1 h2
      split at h1
      · rename_i hk; rw [if_pos hk] at h2; cases h1; cases h2; exact mergeL_false _ _
      · cases h1
    · exact AV.le.top _
  | .top, y => by simp only [SV.merge]; exact AV.le.top _
  | .lit _, y => by simp only [SV.merge]; exact AV.le.top _
  | .ptr .., y => by simp only [SV.merge]; exact AV.le.top _
  | .rptr .., y => by simp only [SV.merge]; exact AV.le.top _
  | .vec .., y => by simp only [SV.merge]; exact AV.le.top _
  | .sptr .., y => by simp only [SV.merge]; exact AV.le.top _
  | .fn .., y => by simp only [SV.merge]; exact AV.le.top _
  | .when .., y => by simp only [SV.merge]; exact AV.le.top _
theorem mergeL_false : ∀ (xs ys : List SV), LeL (SV.denL ys) (SV.denL (SV.mergeL false xs ys))
  | [], [] => by simp only [SV.mergeL]; exact LeL.refl _
  | [], y :: ys => by simp only [SV.mergeL, cond_false]; exact LeL.refl _
  | x :: xs, [] => by simp only [SV.mergeL, cond_false]; exact LeL.refl _
  | x :: xs, y :: ys => by
    simp only [SV.mergeL, cond_false]
    split
    · simp only [SV.denL]; exact ⟨merge_false x y, mergeL_false xs ys⟩
    · exact LeL.refl _
end
end Go.Proofs.Ytkklmkogdogbkaa.Sep
