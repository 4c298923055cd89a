/-
  The small calculus, fourth part: each operation on abstract values stands for the machine's. No condition. (This text proves no statement by itself.)
-/
import Derived.Test.YtkklmkogdogbkaaSep3
namespace Go.Proofs.Ytkklmkogdogbkaa.Sep
open Go
set_option linter.unusedVariables false
set_option linter.unusedSimpArgs false

section inv
variable {S : Nat → Prop} {w : World} {ρ : Names} {v : Value}
theorem Rel.lit_inv {u : Value} (h : Rel S w ρ (.lit u) v) : v = u := by cases h; rfl
theorem Rel.ptr_inv {i off : Nat} (h : Rel S w ρ (.ptr i off) v) : ∃ b, ρ i = some b ∧ v = .pointer (some ⟨b, off, none⟩) := by cases h with | ptr h => exact ⟨_, h, rfl⟩
theorem Rel.rptr_inv {i sz n j : Nat} (h : Rel S w ρ (.rptr i sz n j) v) : ∃ b, ρ i = some b ∧ v = .pointer (some ⟨b, n * sz + j, none⟩) := by cases h with | rptr h => exact ⟨_, h, rfl⟩
theorem Rel.agg_inv {cs : List AV} (h : Rel S w ρ (.agg cs) v) : ∃ vs : Array Value, v = .agg vs ∧ vs.size = cs.length ∧ ∀ (k : Nat) c u, cs[k]? = some c → vs[k]? = some u → Rel S w ρ c u := by cases h with | agg hl h => exact ⟨_, rfl, hl, h⟩
theorem Rel.tup_inv {cs : List AV} (h : Rel S w ρ (.tup cs) v) : ∃ vs : Array Value, v = .tuple vs ∧ vs.size = cs.length ∧ ∀ (k : Nat) c u, cs[k]? = some c → vs[k]? = some u → Rel S w ρ c u := by cases h with | tup hl h => exact ⟨_, rfl, hl, h⟩
theorem Rel.vptr_inv {sz n j : Nat} {xs : List (List AV)} (h : Rel S w ρ (.vptr sz xs n j) v) : ∃ b off, v = .pointer (some ⟨b, off + n * sz + j, none⟩) ∧ S b ∧ (∀ (k : Nat) cs, xs[k]? = some cs → cs.length = sz) ∧
    ∃ vs : Nat → Nat → Value, (∀ (k j : Nat) cs c, xs[k]? = some cs → cs[j]? = some c → w.cell? ⟨b, off + k * sz + j, none⟩ = some (vs k j)) ∧ (∀ (k j : Nat) cs c, xs[k]? = some cs → cs[j]? = some c → Rel S w noNames c (vs k j)) := by
  cases h with | vptr vs hS hz hv hr => exact ⟨_, _, rfl, hS, hz, vs, hv, hr⟩
theorem Rel.vsl_inv {sz : Nat} {xs : List (List AV)} (h : Rel S w ρ (.vsl sz xs) v) : ∃ a cap, v = .slice a xs.length cap ∧ (0 < xs.length → ∃ b off, a = some ⟨b, off, none⟩ ∧ S b ∧ xs.length ≤ cap ∧ (∀ (k : Nat) cs, xs[k]? = some cs → cs.length = sz) ∧
    ∃ vs : Nat → Nat → Value, (∀ (k j : Nat) cs c, xs[k]? = some cs → cs[j]? = some c → w.cell? ⟨b, off + k * sz + j, none⟩ = some (vs k j)) ∧ (∀ (k j : Nat) cs c, xs[k]? = some cs → cs[j]? = some c → Rel S w noNames c (vs k j))) := by
  cases h with
  | vslNil => exact ⟨_, _, rfl, fun h => by simp at h⟩
  | vsl vs hc hS hz hv hr => exact ⟨_, _, rfl, fun _ => ⟨_, _, rfl, hS, hc, hz, vs, hv, hr⟩⟩
theorem Rel.vec_inv {i sz lo len : Nat} (h : Rel S w ρ (.vec i sz lo len) v) : (∃ a, v = .slice a 0 0 ∧ len = 0) ∨ ∃ b T n cap, ρ i = some b ∧ w.shape? b = some (T, n) ∧ lo * sz + cap * sz ≤ n ∧ len ≤ cap ∧ v = .slice (some ⟨b, lo * sz, none⟩) len cap := by
  cases h with
  | vec0 => exact .inl ⟨_, rfl, rfl⟩
  | vec h hs hc hl => exact .inr ⟨_, _, _, _, h, hs, hc, hl, rfl⟩
theorem Rel.when_inv {g : Bool} {x : AV} (h : Rel S w ρ (.when g x) v) (hg : g = true) : Rel S w ρ x v := by cases h with | when h _ => exact h hg
theorem Rel.fn_inv {f : Fn} {xs cs : List AV} (h : Rel S w ρ (.fn f xs cs) v) : ∃ ys vs : Array Value, v = .func f ys vs ∧ ys.size = xs.length ∧ (∀ (k : Nat) c v, xs[k]? = some c → ys[k]? = some v → Rel S w ρ c v) ∧ vs.size = cs.length ∧ (∀ (k : Nat) c v, cs[k]? = some c → vs[k]? = some v → Rel S w ρ c v) := by
  cases h with | fn hl h hl' h' => exact ⟨_, _, rfl, hl, h, hl', h'⟩
theorem Rel.strip {x : AV} (h : Rel S w ρ x v) (hg : grd x = true) : Rel S w ρ (strip x) v := by
  cases x <;> first | exact h | exact h.when_inv hg
theorem Rel.up {x : AV} (h : Rel S w noNames x v) : Rel S w ρ x v := h.mono (Kept.refl S w) (fun _ e => e) (fun _ _ e => by cases e)
theorem Rel.closed {x : AV} (h : Rel S w ρ x v) (hc : x.closed = true) : Rel S w noNames x v := by
  cases h <;> first | (simp [AV.closed] at hc; done) | skip
  case lit => exact .lit _
  case vslNil => exact .vslNil
  case vsl vs hc' hS hz hv hr => exact .vsl vs hc' hS hz hv hr
  case vptr vs hS hz hv hr => exact .vptr vs hS hz hv hr
theorem Rel.oneCell {x : AV} (h : Rel S w ρ x v) (hc : x.scalar = true) : v.oneCell' = true := by
  cases h <;> first | (simp [AV.scalar] at hc; done) | rfl | skip
  case lit => simpa [AV.scalar] using hc
end inv

/-- A row of values. -/
def RelCs (S : Nat → Prop) (w : World) (ρ : Names) (cs : List AV) (vs : Array Value) : Prop := vs.size = cs.length ∧ ∀ (k : Nat) c v, cs[k]? = some c → vs[k]? = some v → Rel S w ρ c v

theorem RelCs.at {S : Nat → Prop} {w : World} {ρ : Names} {cs : List AV} {vs : Array Value} (h : RelCs S w ρ cs vs) {k : Nat} (hk : k < cs.length) : ∃ v, vs[k]? = some v ∧ Rel S w ρ (cs.getD k .top) v := by
  have hk' : k < vs.size := by rw [h.1]; exact hk
  refine ⟨vs[k], by simp [hk'], ?_⟩
  exact h.2 k _ _ (by simp [List.getD, hk]) (by simp [hk'])

theorem RelCs.mono {S S' : Nat → Prop} {w w' : World} {ρ ρ' : Names} {cs : List AV} {vs : Array Value} (h : RelCs S w ρ cs vs) (hk : Kept S w w') (hS : ∀ b, S b → S' b) (hρ : ρ.le ρ') : RelCs S' w' ρ' cs vs :=
  ⟨h.1, fun k c v h1 h2 => (h.2 k c v h1 h2).mono hk hS hρ⟩

theorem cells_rel {S : Nat → Prop} {w : World} {ρ : Names} {x : AV} {v : Value} {cs : List AV} (h : Rel S w ρ x v) (hc : cellsOf? x = some cs) : RelCs S w ρ cs v.cells := by
  have one : ∀ y : AV, Rel S w ρ y v → v.cells = #[v] → RelCs S w ρ [y] v.cells := fun y hy e => by
    rw [e]
    refine ⟨rfl, fun k c u h1 h2 => ?_⟩
    cases k with
    | zero => simp at h1 h2; subst h1; subst h2; exact hy
    | succ k => simp at h1
  cases x with
  | top => simp [cellsOf?] at hc
  | tup cs => simp [cellsOf?] at hc
  | when g x => simp [cellsOf?] at hc
  | agg cs' =>
    simp [cellsOf?] at hc; subst hc
    obtain ⟨vs, rfl, hl, hr⟩ := h.agg_inv
    exact ⟨hl, hr⟩
  | lit u =>
    obtain rfl := h.lit_inv
    cases v <;> first
      | (simp only [cellsOf?, Option.some.injEq] at hc; subst hc; exact one _ h rfl)
      | skip
    case agg vs =>
      simp only [cellsOf?, Option.some.injEq] at hc; subst hc
      refine ⟨by simp [Value.cells], fun k c u h1 h2 => ?_⟩
      simp [Value.cells] at h1 h2
      obtain ⟨x, hx, rfl⟩ := h1
      rw [h2] at hx; cases hx; exact .lit _
    case tuple vs => simp [cellsOf?] at hc
  | ptr i o => simp [cellsOf?] at hc; subst hc; obtain ⟨b, hb, rfl⟩ := h.ptr_inv; exact one _ h rfl
  | rptr i s n j => simp [cellsOf?] at hc; subst hc; obtain ⟨b, hb, rfl⟩ := h.rptr_inv; exact one _ h rfl
  | vec i s l n =>
    simp [cellsOf?] at hc; subst hc
    rcases h.vec_inv with ⟨a, rfl, -⟩ | ⟨b, T, n', cap, -, -, -, -, rfl⟩ <;> exact one _ h rfl
  | vsl s xs => simp [cellsOf?] at hc; subst hc; obtain ⟨a, cap, rfl, -⟩ := h.vsl_inv; exact one _ h rfl
  | vptr s xs n j => simp [cellsOf?] at hc; subst hc; obtain ⟨b, off, rfl, -⟩ := h.vptr_inv; exact one _ h rfl
  | fn f xs cs' => simp [cellsOf?] at hc; subst hc; obtain ⟨ys, vs, rfl, -⟩ := h.fn_inv; exact one _ h rfl

theorem cells_scalar {S : Nat → Prop} {w : World} {ρ : Names} {cs : List AV} {vs : Array Value} (h : RelCs S w ρ cs vs) (hs : cs.all AV.scalar = true) : ∀ v ∈ vs.toList, v.oneCell' = true := by
  intro v hv
  obtain ⟨k, hk⟩ := List.mem_iff_getElem?.1 hv
  have hk1 : vs[k]? = some v := by simpa using hk
  have hlt : k < cs.length := by rw [← h.1]; exact (Array.getElem?_eq_some_iff.1 hk1).1
  have hc : cs[k]? = some cs[k] := by simp [hlt]
  exact (h.2 k _ _ hc hk1).oneCell (List.all_eq_true.1 hs _ (List.getElem_mem hlt))

/-- What an operation comes to. -/
def Good (C : Ctx) (ρ : Names) (S : Nat → Prop) (H : Nat → Option Blk) (nx : Nat → Prop) (w : World) (out : Out) (id : Nat) (r : Result Next) : Prop :=
  ∃ ρ' v w', (r = .ok (.value v) w' ∨ (r = .ok .skip w' ∧ v = undef)) ∧ ρ.le ρ' ∧ Kept S w w' ∧ Mem C ρ' S (out.wr.foldl (fun H p => updH H p.1 p.2) H) (lessOne nx id) w' ∧ Rel S w' ρ' out.val v ∧
    (∀ n : Nat, w.heap[n]? = some (.deferred (some [])) → w'.heap[n]? = some (.deferred (some [])))

theorem Mem.less {C : Ctx} {ρ : Names} {S : Nat → Prop} {H : Nat → Option Blk} {nx nx' : Nat → Prop} {w : World} (h : Mem C ρ S H nx w) (hn : ∀ i, nx' i → nx i) : Mem C ρ S H nx' w :=
  ⟨h.size, h.shape, h.old, h.ent, h.s0, h.snew, h.sin, h.rin, h.own, h.inj, h.blk, fun i hi => h.free i (hn i hi), h.keep⟩

section
variable {C : Ctx} {ρ : Names} {S : Nat → Prop} {H : Nat → Option Blk} {nx : Nat → Prop} {w : World} {id : Nat} {P : Program}

theorem Good.pure {out : Out} {r : Result Next} {v : Value} (hm : Mem C ρ S H nx w) (hr : r = .ok (.value v) w) (hv : Rel S w ρ out.val v) (hw : out.wr = []) : Good C ρ S H nx w out id r :=
  ⟨ρ, v, w, .inl hr, Names.le.refl _, Kept.refl _ _, by rw [hw]; exact hm.less (fun _ h => h.1), hv, fun _ e => e⟩

theorem Good.alloc {out : Out} {r : Result Next} {k : Blk} {vs : Array Value} {T : TypeId} {v : Value} (hm : Mem C ρ S H nx w) (hid : nx id) (hr : r = .ok (.value v) (w.alloc (.cells vs T)))
    (hb : BlkRel S (w.alloc (.cells vs T)) (updN ρ id w.heap.size) (some w.heap.size) k) (hw : out.wr = [(id, k)]) (hv : Rel S (w.alloc (.cells vs T)) (updN ρ id w.heap.size) out.val v) : Good C ρ S H nx w out id r :=
  ⟨updN ρ id w.heap.size, v, w.alloc (.cells vs T), .inl hr, updN_le (hm.free id hid).2, Kept.alloc hm.sin _, by rw [hw]; exact hm.alloc hid hb, hv,
    fun n e => by rw [heap_alloc_lt ((Array.getElem?_eq_some_iff.1 e).1)]; exact e⟩

/-- A new variable that holds these cells. -/
theorem Good.var {out : Out} {r : Result Next} {cs : List AV} {vs : Array Value} {T : TypeId} (hm : Mem C ρ S H nx w) (hid : nx id) (hr : r = .ok (.value (.pointer (some ⟨w.heap.size, 0, none⟩))) (w.alloc (.cells vs T)))
    (hcs : RelCs S w ρ cs vs) (hw : out.wr = [(id, .cells cs)]) (hv : out.val = .ptr id 0) : Good C ρ S H nx w out id r := by
  have hcs' := hcs.mono (Kept.alloc hm.sin (.cells vs T)) (fun _ e => e) (updN_le (b := w.heap.size) (hm.free id hid).2)
  refine Good.alloc (k := .cells cs) hm hid hr ⟨_, vs, T, rfl, heap_alloc_at, hcs.1, hcs'.2⟩ hw ?_
  rw [hv]; exact .ptr (by simp [updN])
end

def absPure (P : Program) (o : Op) (r : Operand → AV) : Option (Prop × AV) :=
  match o with
  | .move x | .assign x => some (grd (r x) = true, strip (r x))
  | .pick c a b =>
    match strip (r c) with
    | .lit (.bool cb) => (mkIf cb (strip (r a)) (strip (r b))).map fun v => (grd (r c) = true ∧ (cb = true → grd (r a) = true) ∧ (cb = false → grd (r b) = true), v)
    | _ => none
  | .fieldAddr T x f =>
    match tyOf P T with
    | some t =>
      match t.kind, t.offs[f]? with
      | 1, some (o, U) =>
        match tyOf P U with
        | some u =>
          if u.size = 0 then none else
          match strip (r x) with
          | .ptr i off => some (grd (r x) = true, .ptr i (off + o))
          | .rptr i s n j => some (grd (r x) = true, .rptr i s n (j + o))
          | .vptr s xs n j => some (grd (r x) = true, .vptr s xs n (j + o))
          | _ => none
        | none => none
      | _, _ => none
    | none => none
  | .nilCheck x =>
    match strip (r x) with
    | .ptr i off => some (grd (r x) = true, .ptr i off)
    | .rptr i s n j => some (grd (r x) = true, .rptr i s n j)
    | .vptr s xs n j => some (grd (r x) = true, .vptr s xs n j)
    | .fn (.func f) xs cs => some (grd (r x) = true, .fn (.func f) xs cs)
    | .lit (.func (.func f) xs cs) => some (grd (r x) = true, .lit (.func (.func f) xs cs))
    | _ => none
  | .binOp op T x y _ => (binAbs P op T (strip (r x)) (strip (r y))).map fun q => (grd (r x) = true ∧ grd (r y) = true ∧ q.1, q.2)
  | .unOp op _ x =>
    match op, strip (r x) with
    | .neg, .lit (.int k n) => some (grd (r x) = true, .lit (.int k (k.wrap (0 - n))))
    | .not, .lit (.bool b) => some (grd (r x) = true, .lit (.bool (!b)))
    | _, _ => none
  | .convert S T x =>
    match tyOf P S, tyOf P T, strip (r x) with
    | some _, some t, .lit (.int _ n) => if t.kind = 5 then some (grd (r x) = true, .lit (.int t.ik (t.ik.wrap n))) else none
    | _, _, _ => none
  | .makeFunc f first cap => some ((∀ x ∈ first, grd (r x) = true) ∧ (∀ x ∈ cap, grd (r x) = true), .fn f (first.toList.map fun x => strip (r x)) (cap.toList.map fun x => strip (r x)))
  | .extract x k =>
    match strip (r x) with
    | .tup cs => (cs[k]?).map fun c => (grd (r x) = true, c)
    | _ => none
  | .field T x f =>
    match tyOf P T, strip (r x) with
    | some t, .agg cs =>
      match t.kind, t.offs[f]? with
      | 1, some (o, U) =>
        match tyOf P U with
        | some u => some (grd (r x) = true ∧ o + (if u.agg then u.size else 1) ≤ cs.length, if u.agg then .agg ((cs.drop o).take u.size) else cs.getD o .top)
        | none => none
      | _, _ => none
    | _, _ => none
  | .index T x i =>
    match tyOf P T, strip (r x), strip (r i) with
    | some t, .agg cs, .lit (.int _ n) =>
      if t.kind = 2 then
        match tyOf P t.elem with
        | some e => some (grd (r x) = true ∧ grd (r i) = true ∧ 0 ≤ n ∧ n < t.len ∧ n.toNat * e.size + (if e.agg then e.size else 1) ≤ cs.length, if e.agg then .agg ((cs.drop (n.toNat * e.size)).take e.size) else cs.getD (n.toNat * e.size) .top)
        | none => none
      else none
    | _, _, _ => none
  | .indexAddr T x i =>
    match tyOf P T, strip (r i) with
    | some t, .lit (.int _ n) =>
      match tyOf P t.elem with
      | some e =>
        if t.kind = 3 then
          match strip (r x) with
          | .vsl sz xs => if sz = e.size then some (grd (r x) = true ∧ grd (r i) = true ∧ 0 ≤ n ∧ n < xs.length, .vptr sz xs n.toNat 0) else none
          | .vec k sz lo len => if sz = e.size then some (grd (r x) = true ∧ grd (r i) = true ∧ 0 ≤ n ∧ n < len, .rptr k sz (lo + n.toNat) 0) else none
          | _ => none
        else if t.kind = 2 then
          match strip (r x) with
          | .ptr k off => some (grd (r x) = true ∧ grd (r i) = true ∧ 0 ≤ n ∧ n < t.len, .ptr k (off + n.toNat * e.size))
          | .rptr k s m j => some (grd (r x) = true ∧ grd (r i) = true ∧ 0 ≤ n ∧ n < t.len, .rptr k s m (j + n.toNat * e.size))
          | .vptr s xs m j => some (grd (r x) = true ∧ grd (r i) = true ∧ 0 ≤ n ∧ n < t.len, .vptr s xs m (j + n.toNat * e.size))
          | _ => none
        else none
      | none => none
    | _, _ => none
  | .call { callee := .builtin .len, args, argTypes } =>
    match args.toList, argTypes.toList with
    | [x], [T] =>
      match tyOf P T, strip (r x) with
      | some t, .vsl _ xs => if t.kind = 3 then some (grd (r x) = true, I xs.length) else none
      | some t, .vec _ _ _ len => if t.kind = 3 then some (grd (r x) = true, I len) else none
      | some t, .lit (.slice _ n _) => if t.kind = 3 then some (grd (r x) = true, I n) else none
      | some t, _ => if t.kind = 2 then some (grd (r x) = true, I t.len) else none
      | _, _ => none
    | _, _ => none
  | .call { callee := .builtin .max, args, .. } =>
    match args.toList with
    | [x, y] =>
      match strip (r x), strip (r y) with
      | .lit (.int k a), .lit (.int _ b) => some (grd (r x) = true ∧ grd (r y) = true, .lit (.int k (max a b)))
      | _, _ => none
    | [x, y, z] =>
      match strip (r x), strip (r y), strip (r z) with
      | .lit (.int k a), .lit (.int _ b), .lit (.int _ c) => some (grd (r x) = true ∧ grd (r y) = true ∧ grd (r z) = true, .lit (.int k (max (max a b) c)))
      | _, _, _ => none
    | _ => none
  | .call { callee := .builtin .min, args, .. } =>
    match args.toList with
    | [x, y] =>
      match strip (r x), strip (r y) with
      | .lit (.int k a), .lit (.int _ b) => some (grd (r x) = true ∧ grd (r y) = true, .lit (.int k (min a b)))
      | _, _ => none
    | [x, y, z] =>
      match strip (r x), strip (r y), strip (r z) with
      | .lit (.int k a), .lit (.int _ b), .lit (.int _ c) => some (grd (r x) = true ∧ grd (r y) = true ∧ grd (r z) = true, .lit (.int k (min (min a b) c)))
      | _, _, _ => none
    | _ => none
  | _ => none

end Go.Proofs.Ytkklmkogdogbkaa.Sep
